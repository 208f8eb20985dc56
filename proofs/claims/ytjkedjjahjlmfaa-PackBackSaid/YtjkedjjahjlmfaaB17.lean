import Derived.Test.YtjkedjjahjlmfaaB10
import Derived.Test.YtjkedjjahjlmfaaFw37
import Derived.Test.YtjkedjjahjlmfaaB11
namespace Go.Proofs.Ytjkedjjahjlmfaa.T
open Go.Dn
set_option linter.unusedSimpArgs false
set_option linter.unusedVariables false

theorem sliceD {b : D} {rows : List (List D)} (h : LV (.d b) rows) {sz : Nat} (hf : ∀ r ∈ rows, r.length = sz) {lo hi : Nat} (h1 : lo ≤ hi) (h2 : hi ≤ rows.length) :
    ∃ b', sliceV sz (.d b) lo hi none = some (.d b') ∧ LV (.d b') ((rows.drop lo).take (hi - lo)) := by
  have hf' := fitR_iff.2 hf
  cases h with
  | nil =>
    obtain rfl : hi = 0 := by simpa using h2
    obtain rfl : lo = 0 := by omega
    exact ⟨_, rfl, .nil⟩
  | list rows => exact ⟨_, by simp [sliceV, hf', h2], .list _⟩

/-- A reader by value. -/
def RIn (v : V) (s : Rd) : Prop := ∃ b, v = .da [b, .bool s.2] ∧ LV (.d b) (byteRows s.1)
theorem RIn.wrong : RIn (.da [.nils, .bool true]) wrongS := ⟨_, rfl, .nil⟩

theorem s_wrong : Dn.Call Γ cx .val 41 [] St.empty fun v _ => v = .da [.nils, .bool true] := by
  refine Dn.Call.body (fc := c41) rfl ?_
  simp -implicitDefEqProofs [body_eq, w_skip, w_ops, w_seq, w_cond, w_block, w_exit, w_ret, q_then_n, q_then_e, q_then_r, q_blk_n, q_blk_e, q_blk_r, q_ops, q_cont, q_end_n, q_end_r, q_end_e, q_loop_n, q_loop_e, q_loop_r, i_nil, i_p, i_alloc, i_box, i_store, i_copy, i_clear, i_make, i_call, i_callv, i_when, t_nil, t_p, t_call, t_alloc, t_box, t_store, kept_nil, t_copy, t_clear, t_make, q_tcont, gsel, List.cons_append, List.nil_append, evalP, evalE, Opd.ev, Env.get, Env.set, Env.pick, putE, initEnv, evalBin, intBin, evalUn, evalConv, goneAll, goneOne, retV, resAll, Res.ev, tupOf, byVals, byValsN, bv_d, bv_da, bv_fl, bv_tl, bn_d, bn_da, bn_fl, bn_tl, cx, Dn.newObj, St.place, St.push, St.spot, St.empty, cell_d, cell_da, cell_agg, cell_ref, cell_sl, cell_fl, cell_tl, cell_map, cell_fn, cell_ifc, loadAt, faddrV, partOf, extractV, mkAgg, ofD, splice, St.setObj, fillV, c41, c41_k0]

theorem s_rEnd {b : D} {s : Rd} (h : LV (.d b) (byteRows s.1)) : Dn.Call Γ cx .val 33 [.da [b, .bool s.2]] St.empty fun v _ => v = B (!s.2 && decide (s.1.length = 0)) := by
  refine Dn.Call.body (fc := c33) rfl ?_
  obtain ⟨l, bad⟩ := s
  simp only at h ⊢
  cases bad with
  | true => simp -implicitDefEqProofs [body_eq, w_skip, w_ops, w_seq, w_cond, w_block, w_exit, w_ret, q_then_n, q_then_e, q_then_r, q_blk_n, q_blk_e, q_blk_r, q_ops, q_cont, q_end_n, q_end_r, q_end_e, q_loop_n, q_loop_e, q_loop_r, i_nil, i_p, i_alloc, i_box, i_store, i_copy, i_clear, i_make, i_call, i_callv, i_when, t_nil, t_p, t_call, t_alloc, t_box, t_store, kept_nil, t_copy, t_clear, t_make, q_tcont, gsel, List.cons_append, List.nil_append, evalP, evalE, Opd.ev, Env.get, Env.set, Env.pick, putE, initEnv, evalBin, intBin, evalUn, evalConv, goneAll, goneOne, retV, resAll, Res.ev, tupOf, byVals, byValsN, bv_d, bv_da, bv_fl, bv_tl, bn_d, bn_da, bn_fl, bn_tl, cx, Dn.newObj, St.place, St.push, St.spot, St.empty, cell_d, cell_da, cell_agg, cell_ref, cell_sl, cell_fl, cell_tl, cell_map, cell_fn, cell_ifc, loadAt, faddrV, partOf, extractV, mkAgg, ofD, splice, St.setObj, fillV, c33, c33_k0]
  | false =>
    have hlen : ∀ σ, lenT σ .slice (.d b) = some l.length := fun σ => by rw [h.len σ, byteRows_len]
    simp -implicitDefEqProofs [body_eq, w_skip, w_ops, w_seq, w_cond, w_block, w_exit, w_ret, q_then_n, q_then_e, q_then_r, q_blk_n, q_blk_e, q_blk_r, q_ops, q_cont, q_end_n, q_end_r, q_end_e, q_loop_n, q_loop_e, q_loop_r, i_nil, i_p, i_alloc, i_box, i_store, i_copy, i_clear, i_make, i_call, i_callv, i_when, t_nil, t_p, t_call, t_alloc, t_box, t_store, kept_nil, t_copy, t_clear, t_make, q_tcont, gsel, List.cons_append, List.nil_append, evalP, evalE, Opd.ev, Env.get, Env.set, Env.pick, putE, initEnv, evalBin, intBin, evalUn, evalConv, goneAll, goneOne, retV, resAll, Res.ev, tupOf, byVals, byValsN, bv_d, bv_da, bv_fl, bv_tl, bn_d, bn_da, bn_fl, bn_tl, cx, Dn.newObj, St.place, St.push, St.spot, St.empty, cell_d, cell_da, cell_agg, cell_ref, cell_sl, cell_fl, cell_tl, cell_map, cell_fn, cell_ifc, loadAt, faddrV, partOf, extractV, mkAgg, ofD, splice, St.setObj, fillV, c33, c33_k0, hlen]

theorem numB_zero (n size : Int) : (numB n size).length = 0 ↔ sized size = false := by
  unfold numB
  by_cases h : sized size = true
  · have := sized_inv h
    simp [h, low_len]
    omega
  · simp [h]

theorem s_rNumV (n : Int) (hn : 0 ≤ n) (hn' : n ≤ 18446744073709551615) (size : Int) :
    Dn.Call Γ cx .val 14 [U n, I size] St.empty fun v _ => ∃ x, v = .d x ∧ LV (.d x) (byteRows (numB n size)) := by
  refine Call.as_val (fc := c14) rfl rfl (s_rNum St.empty n hn hn' size) fun v s h => ?_
  obtain ⟨d1, d2, ⟨x, dx⟩, d4, d5⟩ := h.app.lv.dv s
  rw [dx] at d1 d2
  exact ⟨_, d1, x, rfl, d2⟩
theorem s_rCountV (n : Int) (hn : n ≤ 9223372036854775807) :
    Dn.Call Γ cx .val 16 [I n] St.empty fun v _ => ∃ x, v = .d x ∧ LV (.d x) (byteRows (countB n)) := by
  refine Call.as_val (fc := c16) rfl rfl (s_rCount St.empty n hn) fun v s h => ?_
  obtain ⟨d1, d2, ⟨x, dx⟩, d4, d5⟩ := h.app.lv.dv s
  rw [dx] at d1 d2
  exact ⟨_, d1, x, rfl, d2⟩

/-- What reads and answers. -/
def RGot (v : V) (r : V) (s : Rd) : Prop := ∃ b, v = .tup [.da [b, .bool s.2], r] ∧ LV (.d b) (byteRows s.1)

def InvRRead (b : D) (l : List UInt8) (z : Nat) (m : Nat) (e : Env) (σ : St) : Prop := ∃ (j : Nat) (σ0 : Unit), e = [(1, I z), (2, .ref 0 0), (4, .ref 1 0), (6, U (valB ((l.take z).drop j))), (7, I ((j : Int) - 1))] ∧ j ≤ z ∧ m = j ∧ σ = ⟨[.cells [.d b, B false], .cells [.d .nils, B false]], []⟩

theorem s_ReadNum {b : D} {s : Rd} (h : LV (.d b) (byteRows s.1)) (hl : s.1.length ≤ 1099511627776) (size : Int) :
    Dn.Call Γ cx .val 23 [.da [b, .bool s.2], I size] St.empty fun v _ => RGot v (U (numS s size).1) (numS s size).2 := by
  refine Dn.Call.body (fc := c23) rfl ?_
  obtain ⟨l, bad⟩ := s
  simp only at h hl ⊢
  -- the wrong one
  have bad1 : (numS (l, bad) size) = (0, wrongS) → wcode (Dn.Call Γ cx) cx c23_k8 [(1, I size), (2, .ref 0 0), (4, .ref 1 0), (22, B true)] ⟨[.cells [.d b, B bad], .cells [.d .nils, B false]], []⟩ (thenQ (Dn.Call Γ cx) cx c23_k7 (endQ .val St.empty [.cell 4 true 2, .tmp 5] fun v _ => RGot v (U (numS (l, bad) size).1) (numS (l, bad) size).2)) := fun hn => by
    simp -implicitDefEqProofs [body_eq, w_skip, w_ops, w_seq, w_cond, w_block, w_exit, w_ret, q_then_n, q_then_e, q_then_r, q_blk_n, q_blk_e, q_blk_r, q_ops, q_cont, q_end_n, q_end_r, q_end_e, q_loop_n, q_loop_e, q_loop_r, i_nil, i_p, i_alloc, i_box, i_store, i_copy, i_clear, i_make, i_call, i_callv, i_when, t_nil, t_p, t_call, t_alloc, t_box, t_store, kept_nil, t_copy, t_clear, t_make, q_tcont, gsel, List.cons_append, List.nil_append, evalP, evalE, Opd.ev, Env.get, Env.set, Env.pick, putE, initEnv, evalBin, intBin, evalUn, evalConv, goneAll, goneOne, retV, resAll, Res.ev, tupOf, byVals, byValsN, bv_d, bv_da, bv_fl, bv_tl, bn_d, bn_da, bn_fl, bn_tl, cx, Dn.newObj, St.place, St.push, St.spot, St.empty, cell_d, cell_da, cell_agg, cell_ref, cell_sl, cell_fl, cell_tl, cell_map, cell_fn, cell_ifc, loadAt, faddrV, partOf, extractV, mkAgg, ofD, splice, St.setObj, fillV, c23_k8]
    refine use_fn rfl s_wrong rfl ?_
    simp -implicitDefEqProofs [body_eq, w_skip, w_ops, w_seq, w_cond, w_block, w_exit, w_ret, q_then_n, q_then_e, q_then_r, q_blk_n, q_blk_e, q_blk_r, q_ops, q_cont, q_end_n, q_end_r, q_end_e, q_loop_n, q_loop_e, q_loop_r, i_nil, i_p, i_alloc, i_box, i_store, i_copy, i_clear, i_make, i_call, i_callv, i_when, t_nil, t_p, t_call, t_alloc, t_box, t_store, kept_nil, t_copy, t_clear, t_make, q_tcont, gsel, List.cons_append, List.nil_append, evalP, evalE, Opd.ev, Env.get, Env.set, Env.pick, putE, initEnv, evalBin, intBin, evalUn, evalConv, goneAll, goneOne, retV, resAll, Res.ev, tupOf, byVals, byValsN, bv_d, bv_da, bv_fl, bv_tl, bn_d, bn_da, bn_fl, bn_tl, cx, Dn.newObj, St.place, St.push, St.spot, St.empty, cell_d, cell_da, cell_agg, cell_ref, cell_sl, cell_fl, cell_tl, cell_map, cell_fn, cell_ifc, loadAt, faddrV, partOf, extractV, mkAgg, ofD, splice, St.setObj, fillV, hn, ofD]
    exact ⟨_, rfl, .nil⟩
  have hlen : ∀ σ, lenT σ .slice (.d b) = some l.length := fun σ => by rw [h.len σ, byteRows_len]
  cases bad with
  | true =>
    simp -implicitDefEqProofs [body_eq, w_skip, w_ops, w_seq, w_cond, w_block, w_exit, w_ret, q_then_n, q_then_e, q_then_r, q_blk_n, q_blk_e, q_blk_r, q_ops, q_cont, q_end_n, q_end_r, q_end_e, q_loop_n, q_loop_e, q_loop_r, i_nil, i_p, i_alloc, i_box, i_store, i_copy, i_clear, i_make, i_call, i_callv, i_when, t_nil, t_p, t_call, t_alloc, t_box, t_store, kept_nil, t_copy, t_clear, t_make, q_tcont, gsel, List.cons_append, List.nil_append, evalP, evalE, Opd.ev, Env.get, Env.set, Env.pick, putE, initEnv, evalBin, intBin, evalUn, evalConv, goneAll, goneOne, retV, resAll, Res.ev, tupOf, byVals, byValsN, bv_d, bv_da, bv_fl, bv_tl, bn_d, bn_da, bn_fl, bn_tl, cx, Dn.newObj, St.place, St.push, St.spot, St.empty, cell_d, cell_da, cell_agg, cell_ref, cell_sl, cell_fl, cell_tl, cell_map, cell_fn, cell_ifc, loadAt, faddrV, partOf, extractV, mkAgg, ofD, splice, St.setObj, fillV, c23, c23_k9]
    exact bad1 (by unfold numS nextS noNext; split <;> simp [valB])
  | false =>
    simp -implicitDefEqProofs [body_eq, w_skip, w_ops, w_seq, w_cond, w_block, w_exit, w_ret, q_then_n, q_then_e, q_then_r, q_blk_n, q_blk_e, q_blk_r, q_ops, q_cont, q_end_n, q_end_r, q_end_e, q_loop_n, q_loop_e, q_loop_r, i_nil, i_p, i_alloc, i_box, i_store, i_copy, i_clear, i_make, i_call, i_callv, i_when, t_nil, t_p, t_call, t_alloc, t_box, t_store, kept_nil, t_copy, t_clear, t_make, q_tcont, gsel, List.cons_append, List.nil_append, evalP, evalE, Opd.ev, Env.get, Env.set, Env.pick, putE, initEnv, evalBin, intBin, evalUn, evalConv, goneAll, goneOne, retV, resAll, Res.ev, tupOf, byVals, byValsN, bv_d, bv_da, bv_fl, bv_tl, bn_d, bn_da, bn_fl, bn_tl, cx, Dn.newObj, St.place, St.push, St.spot, St.empty, cell_d, cell_da, cell_agg, cell_ref, cell_sl, cell_fl, cell_tl, cell_map, cell_fn, cell_ifc, loadAt, faddrV, partOf, extractV, mkAgg, ofD, splice, St.setObj, fillV, c23, c23_k9]
    refine use_val (ds := [U 0, I size]) rfl (s_rNumV 0 (by omega) (by omega) size) ?_
    rintro v s ⟨x, rfl, hx⟩
    refine ⟨by simp [V.pure, V.flatv], fun h => by simp [V.borrows] at h, ?_⟩
    have hxl := hx.len ⟨[.cells [.d b, B false], .cells [.d .nils, B false]], []⟩
    rw [byteRows_len] at hxl
    by_cases hs : sized size = true
    rotate_left
    · have h0 := (numB_zero 0 size).2 (by simpa using hs)
      simp -implicitDefEqProofs [body_eq, w_skip, w_ops, w_seq, w_cond, w_block, w_exit, w_ret, q_then_n, q_then_e, q_then_r, q_blk_n, q_blk_e, q_blk_r, q_ops, q_cont, q_end_n, q_end_r, q_end_e, q_loop_n, q_loop_e, q_loop_r, i_nil, i_p, i_alloc, i_box, i_store, i_copy, i_clear, i_make, i_call, i_callv, i_when, t_nil, t_p, t_call, t_alloc, t_box, t_store, kept_nil, t_copy, t_clear, t_make, q_tcont, gsel, List.cons_append, List.nil_append, evalP, evalE, Opd.ev, Env.get, Env.set, Env.pick, putE, initEnv, evalBin, intBin, evalUn, evalConv, goneAll, goneOne, retV, resAll, Res.ev, tupOf, byVals, byValsN, bv_d, bv_da, bv_fl, bv_tl, bn_d, bn_da, bn_fl, bn_tl, cx, Dn.newObj, St.place, St.push, St.spot, St.empty, cell_d, cell_da, cell_agg, cell_ref, cell_sl, cell_fl, cell_tl, cell_map, cell_fn, cell_ifc, loadAt, faddrV, partOf, extractV, mkAgg, ofD, splice, St.setObj, fillV, hxl, h0]
      exact bad1 (by simp [numS, hs])
    have h0 : ¬ (numB 0 size).length = 0 := fun h => by rw [(numB_zero 0 size).1 h] at hs; cases hs
    by_cases hz : (l.length : Int) < size
    · simp -implicitDefEqProofs [body_eq, w_skip, w_ops, w_seq, w_cond, w_block, w_exit, w_ret, q_then_n, q_then_e, q_then_r, q_blk_n, q_blk_e, q_blk_r, q_ops, q_cont, q_end_n, q_end_r, q_end_e, q_loop_n, q_loop_e, q_loop_r, i_nil, i_p, i_alloc, i_box, i_store, i_copy, i_clear, i_make, i_call, i_callv, i_when, t_nil, t_p, t_call, t_alloc, t_box, t_store, kept_nil, t_copy, t_clear, t_make, q_tcont, gsel, List.cons_append, List.nil_append, evalP, evalE, Opd.ev, Env.get, Env.set, Env.pick, putE, initEnv, evalBin, intBin, evalUn, evalConv, goneAll, goneOne, retV, resAll, Res.ev, tupOf, byVals, byValsN, bv_d, bv_da, bv_fl, bv_tl, bn_d, bn_da, bn_fl, bn_tl, cx, Dn.newObj, St.place, St.push, St.spot, St.empty, cell_d, cell_da, cell_agg, cell_ref, cell_sl, cell_fl, cell_tl, cell_map, cell_fn, cell_ifc, loadAt, faddrV, partOf, extractV, mkAgg, ofD, splice, St.setObj, fillV, hxl, h0, hlen, hz]
      exact bad1 (by simp [numS, hs, nextS, noNext, hz, valB])
    obtain ⟨z, rfl, hz8⟩ : ∃ k : Nat, size = k ∧ k ≤ 8 := ⟨size.toNat, by have := sized_inv hs; omega, by have := sized_inv hs; omega⟩
    have hzl : z ≤ l.length := by omega
    have hns : numS (l, false) z = ((valB (l.take z) : Int), (l.drop z, false)) := by
      have : noNext (l, false) z = false := by simp [noNext]; omega
      simp [numS, hs, nextS, this]
    obtain ⟨b', hb', hlb⟩ := sliceD h (sz := 1) (byteRows_fit _) (lo := z) (hi := l.length) hzl (by rw [byteRows_len]; exact Nat.le_refl _)
    rw [byteRows_drop, List.take_of_length_le (by simp [byteRows_len])] at hlb
    have hlv : ∀ σ, lenV σ (.d b) = some l.length := fun σ => by rw [h.lenV σ, byteRows_len]
    have hzi : (z : Int) ≤ l.length := by omega
    have hsl : ∀ σ, sliceX σ 1 (.d b) (some (I z)) none none = some (.d b') := fun σ => by simp [sliceX, hlv, boundV, asIdx, hb', hzi]
    simp -implicitDefEqProofs [body_eq, w_skip, w_ops, w_seq, w_cond, w_block, w_exit, w_ret, q_then_n, q_then_e, q_then_r, q_blk_n, q_blk_e, q_blk_r, q_ops, q_cont, q_end_n, q_end_r, q_end_e, q_loop_n, q_loop_e, q_loop_r, i_nil, i_p, i_alloc, i_box, i_store, i_copy, i_clear, i_make, i_call, i_callv, i_when, t_nil, t_p, t_call, t_alloc, t_box, t_store, kept_nil, t_copy, t_clear, t_make, q_tcont, gsel, List.cons_append, List.nil_append, evalP, evalE, Opd.ev, Env.get, Env.set, Env.pick, putE, initEnv, evalBin, intBin, evalUn, evalConv, goneAll, goneOne, retV, resAll, Res.ev, tupOf, byVals, byValsN, bv_d, bv_da, bv_fl, bv_tl, bn_d, bn_da, bn_fl, bn_tl, cx, Dn.newObj, St.place, St.push, St.spot, St.empty, cell_d, cell_da, cell_agg, cell_ref, cell_sl, cell_fl, cell_tl, cell_map, cell_fn, cell_ifc, loadAt, faddrV, partOf, extractV, mkAgg, ofD, splice, St.setObj, fillV, hxl, h0, hlen, hz, c23_k8, c23_k7, c23_k6, wrap_i64 (n := (z : Int) - 1) (by omega) (by omega), c23_k5]
    refine wloopI (InvRRead b l z) (m := z) ⟨z, (), ?_, by omega, rfl, rfl⟩ ?_
    · simp [Env.pick, Env.get, valB]
    rintro j e σ ⟨_, _, rfl, hj, rfl, rfl⟩
    simp -implicitDefEqProofs [body_eq, w_skip, w_ops, w_seq, w_cond, w_block, w_exit, w_ret, q_then_n, q_then_e, q_then_r, q_blk_n, q_blk_e, q_blk_r, q_ops, q_cont, q_end_n, q_end_r, q_end_e, q_loop_n, q_loop_e, q_loop_r, i_nil, i_p, i_alloc, i_box, i_store, i_copy, i_clear, i_make, i_call, i_callv, i_when, t_nil, t_p, t_call, t_alloc, t_box, t_store, kept_nil, t_copy, t_clear, t_make, q_tcont, gsel, List.cons_append, List.nil_append, evalP, evalE, Opd.ev, Env.get, Env.set, Env.pick, putE, initEnv, evalBin, intBin, evalUn, evalConv, goneAll, goneOne, retV, resAll, Res.ev, tupOf, byVals, byValsN, bv_d, bv_da, bv_fl, bv_tl, bn_d, bn_da, bn_fl, bn_tl, cx, Dn.newObj, St.place, St.push, St.spot, St.empty, cell_d, cell_da, cell_agg, cell_ref, cell_sl, cell_fl, cell_tl, cell_map, cell_fn, cell_ifc, loadAt, faddrV, partOf, extractV, mkAgg, ofD, splice, St.setObj, fillV, c23_l4, c23_k3]
    by_cases hj0 : j = 0
    · subst hj0
      simp -implicitDefEqProofs [body_eq, w_skip, w_ops, w_seq, w_cond, w_block, w_exit, w_ret, q_then_n, q_then_e, q_then_r, q_blk_n, q_blk_e, q_blk_r, q_ops, q_cont, q_end_n, q_end_r, q_end_e, q_loop_n, q_loop_e, q_loop_r, i_nil, i_p, i_alloc, i_box, i_store, i_copy, i_clear, i_make, i_call, i_callv, i_when, t_nil, t_p, t_call, t_alloc, t_box, t_store, kept_nil, t_copy, t_clear, t_make, q_tcont, gsel, List.cons_append, List.nil_append, evalP, evalE, Opd.ev, Env.get, Env.set, Env.pick, putE, initEnv, evalBin, intBin, evalUn, evalConv, goneAll, goneOne, retV, resAll, Res.ev, tupOf, byVals, byValsN, bv_d, bv_da, bv_fl, bv_tl, bn_d, bn_da, bn_fl, bn_tl, cx, Dn.newObj, St.place, St.push, St.spot, St.empty, cell_d, cell_da, cell_agg, cell_ref, cell_sl, cell_fl, cell_tl, cell_map, cell_fn, cell_ifc, loadAt, faddrV, partOf, extractV, mkAgg, ofD, splice, St.setObj, fillV, c23_k0, hsl, hns, ofD]
      exact ⟨_, rfl, hlb⟩
    obtain ⟨j', rfl⟩ : ∃ j', j = j' + 1 := ⟨j - 1, by omega⟩
    have hbj : l[j']? = some (l[j']'(by omega)) := by simp [show j' < l.length by omega]
    have hia := h.iaddr ⟨[.cells [.d b, B false], .cells [.d .nils, B false]], []⟩ (k := .i64) (sz := 1) (byteRows_at hbj) rfl
    have hge : (0 : Int) ≤ ((j' + 1 : Nat) : Int) - 1 := by omega
    have hje : ((j' + 1 : Nat) : Int) - 1 = j' := by omega
    rw [hje]
    have hjn : (0 : Int) ≤ j' := by omega
    simp -implicitDefEqProofs [body_eq, w_skip, w_ops, w_seq, w_cond, w_block, w_exit, w_ret, q_then_n, q_then_e, q_then_r, q_blk_n, q_blk_e, q_blk_r, q_ops, q_cont, q_end_n, q_end_r, q_end_e, q_loop_n, q_loop_e, q_loop_r, i_nil, i_p, i_alloc, i_box, i_store, i_copy, i_clear, i_make, i_call, i_callv, i_when, t_nil, t_p, t_call, t_alloc, t_box, t_store, kept_nil, t_copy, t_clear, t_make, q_tcont, gsel, List.cons_append, List.nil_append, evalP, evalE, Opd.ev, Env.get, Env.set, Env.pick, putE, initEnv, evalBin, intBin, evalUn, evalConv, goneAll, goneOne, retV, resAll, Res.ev, tupOf, byVals, byValsN, bv_d, bv_da, bv_fl, bv_tl, bn_d, bn_da, bn_fl, bn_tl, cx, Dn.newObj, St.place, St.push, St.spot, St.empty, cell_d, cell_da, cell_agg, cell_ref, cell_sl, cell_fl, cell_tl, cell_map, cell_fn, cell_ifc, loadAt, faddrV, partOf, extractV, mkAgg, ofD, splice, St.setObj, fillV, hjn, c23_k2, hia, c23_k1, wrap_i64 (n := (j' : Int) - 1) (by omega) (by omega)]
    have hjl : j' < (l.take z).length := by simp; omega
    have hdr : (l.take z).drop j' = l[j']'(by omega) :: (l.take z).drop (j' + 1) := by
      rw [List.drop_eq_getElem_cons hjl]
      simp
    have hvb : valB ((l.take z).drop j') = (l[j']'(by omega)).toNat + 256 * valB ((l.take z).drop (j' + 1)) := by rw [hdr, valB]
    have hlt := valB_lt ((l.take z).drop j')
    have hle : ((l.take z).drop j').length ≤ 8 := by simp; omega
    have hpw : 256 ^ ((l.take z).drop j').length ≤ 256 ^ 8 := Nat.pow_le_pow_right (by decide) hle
    have e8 : (256 : Nat) ^ 8 = 18446744073709551616 := by decide
    rw [if_pos (by omega), wrap_u64 (n := 256 * _) (by omega) (by omega), wrap_u64 (n := ((l[j']'(by omega)).toNat : Int)) (by omega) (by omega), wrap_u64 (by omega) (by omega)]
    refine ⟨j', by omega, j', (), ?_, by omega, rfl, rfl⟩
    rw [hvb]
    simp only [List.cons.injEq, Prod.mk.injEq, true_and, and_true, V.d.injEq, D.int.injEq]
    omega

/-! a count -/
theorem numS_good {s : Rd} {size : Int} (hs : sized size = true) (h : (numS s size).2.2 = false) : s.2 = false ∧ ((numS s size).2.1.length : Int) + size = s.1.length := by
  have h0 := sized_inv hs
  unfold numS at *
  rw [if_pos hs] at *
  unfold nextS noNext at *
  split at h
  · simp [wrongS] at h
  · rename_i h1
    simp only [h1] at h ⊢
    simp at h1
    refine ⟨h1.1.1, ?_⟩
    simp
    omega

/-- What the document's count reads ahead of its test. -/
def rcN (s : Rd) : Int × Rd :=
  let p := numS s 1
  if 253 ≤ p.1 then numS p.2 (if p.1 = 255 then 8 else if p.1 = 254 then 4 else 2) else p
def rcBad (s : Rd) (most : Int) (p : Int × Rd) : Bool := p.2.2 || decide (most < 0) || decide (most < p.1) || decide (((countB p.1).length : Int) + p.2.1.length ≠ s.1.length)

theorem countS_ref (s : Rd) (most : Int) : countS s most = if rcBad s most (rcN s) then (0, wrongS) else rcN s := by
  have hp := numS_lt s 1
  have hp' := numS1_lt s
  have hg : (numS s 1).2.2 = false → _ := numS_good (s := s) (size := 1) rfl
  unfold countS countN rcN
  generalize numS s 1 = p at *
  obtain ⟨n, s1⟩ := p
  simp only at hp hp' hg ⊢
  by_cases h : 253 ≤ n
  rotate_left
  · have hz : sizeV n = 0 := by unfold sizeV; (repeat' split) <;> omega
    rw [if_neg h, if_neg (by omega : ¬ sizeV n > 0)]
    have hb : countBad (n, s1) most = rcBad s most (n, s1) := by
      unfold countBad rcBad
      cases hbad : s1.2 with
      | true => simp
      | false =>
        have hl : ((countB n).length : Int) + s1.1.length = s.1.length := by
          have : (countB n).length = 1 := by unfold countB; rw [if_neg (by omega), if_pos (by omega), low_len]
          have := (hg hbad).2
          omega
        simp [hl]
    rw [hb]
  · have hsz : (if n = 255 then (8 : Int) else if n = 254 then 4 else 2) = sizeV n := by unfold sizeV; (repeat' split) <;> omega
    have hsd : sized (sizeV n) = true := by
      have : n = 253 ∨ n = 254 ∨ n = 255 := by omega
      rcases this with rfl | rfl | rfl <;> rfl
    have hpos : sizeV n > 0 := by have := sized_inv hsd; omega
    rw [if_pos h, if_pos hpos, hsz]
    have hq := numS_lt s1 (sizeV n)
    have hgq : (numS s1 (sizeV n)).2.2 = false → _ := numS_good (s := s1) (size := sizeV n) hsd
    generalize numS s1 (sizeV n) = q at *
    obtain ⟨m, s2⟩ := q
    simp only at hq hgq ⊢
    cases hbad : s2.2 with
    | true =>
      have e1 : countBad (m, if mark m = n then s2 else wrongS) most = true := by
        unfold countBad
        split <;> simp [hbad, wrongS]
      have e2 : rcBad s most (m, s2) = true := by simp [rcBad, hbad]
      rw [e1, e2]
      rfl
    | false =>
      obtain ⟨g1, g2⟩ := hgq hbad
      have g3 := (hg g1).2
      have key : mark m = n ↔ ((countB m).length : Int) + s2.1.length = s.1.length := by
        have hn3 : n = 253 ∨ n = 254 ∨ n = 255 := by omega
        have e : ((countB m).length : Int) + s2.1.length = s.1.length ↔ ((countB m).length : Int) = 1 + sizeV n := by omega
        rw [e]
        unfold mark countB
        rw [if_neg (by omega : ¬ m < 0)]
        by_cases a1 : m < 253
        · rw [if_pos a1, if_pos (by omega : m ≤ 252), low_len]
          constructor
          · intro h; omega
          · intro h; rcases hn3 with rfl | rfl | rfl <;> simp [sizeV] at h
        rw [if_neg a1, if_neg (by omega : ¬ m ≤ 252)]
        by_cases a2 : m ≤ 65535
        · rw [if_pos a2, if_pos a2]
          rcases hn3 with rfl | rfl | rfl <;> simp [sizeV, low_len]
        rw [if_neg a2, if_neg a2]
        by_cases a3 : m ≤ 4294967295
        · rw [if_pos a3, if_pos a3]
          rcases hn3 with rfl | rfl | rfl <;> simp [sizeV, low_len]
        · rw [if_neg a3, if_neg a3]
          rcases hn3 with rfl | rfl | rfl <;> simp [sizeV, low_len]
      by_cases hmk : mark m = n
      · rw [if_pos hmk]
        have e : countBad (m, s2) most = rcBad s most (m, s2) := by simp [countBad, rcBad, key.1 hmk]
        rw [e]
      · rw [if_neg hmk]
        have e1 : countBad (m, wrongS) most = true := by simp [countBad, wrongS]
        have e2 : rcBad s most (m, s2) = true := by
          have : ¬ ((countB m).length : Int) + s2.1.length = s.1.length := fun h => hmk (key.2 h)
          simp [rcBad, this]
        rw [e1, e2]
        rfl

end Go.Proofs.Ytjkedjjahjlmfaa.T

namespace Go.Proofs.Ytjkedjjahjlmfaa.T
open Go.Dn
set_option linter.unusedSimpArgs false
set_option linter.unusedVariables false

abbrev anys : Env := [(31, .any), (32, .any), (35, .any), (36, .any), (37, .any), (38, .any), (41, .any), (42, .any), (43, .any), (44, .any), (45, .any), (46, .any), (47, .any), (48, .any), (49, .any), (50, .any), (51, .any)]

theorem rcN_lt (s : Rd) : 0 ≤ (rcN s).1 ∧ (rcN s).1 ≤ 18446744073709551615 := by
  unfold rcN
  simp only
  split
  · exact numS_lt _ _
  · exact numS_lt _ _

theorem s_ReadCount {b : D} {s : Rd} (h : LV (.d b) (byteRows s.1)) (hl : s.1.length ≤ 1099511627776) (most : Int) (hm : most ≤ 9223372036854775807) :
    Dn.Call Γ cx .val 25 [.da [b, .bool s.2], I most] St.empty fun v _ => RGot v (I (countS s most).1) (countS s most).2 := by
  refine Dn.Call.body (fc := c25) rfl ?_
  have hblen : ∀ σ, lenT σ .slice (.d b) = some s.1.length := fun σ => by rw [h.len σ, byteRows_len]
  -- behind what was read
  have fin : ∀ (n : Int) (b2 : D) (s2 : Rd) (E : Env), rcN s = (n, s2) → LV (.d b2) (byteRows s2.1) → s2.1.length ≤ s.1.length → (E = (17, B false) :: anys ∨ E = anys) →
      wcode (Dn.Call Γ cx) cx c25_k2 ([(1, I most), (2, .ref 0 0), (4, .ref 1 0), (6, .d b), (7, U n)] ++ E) ⟨[.cells [.d b2, B s2.2], .cells [.d .nils, B false]], []⟩ (endQ .val St.empty [.cell 4 true 2, .tmp 5] fun v _ => RGot v (I (countS s most).1) (countS s most).2) := by
    intro n b2 s2 E hr hb2 hl2 hE
    have hlt := rcN_lt s
    rw [countS_ref, hr]
    rw [hr] at hlt
    simp only at hlt
    obtain ⟨l2, bad⟩ := s2
    simp only at hb2 hl2 ⊢
    have hb2len : ∀ σ, lenT σ .slice (.d b2) = some l2.length := fun σ => by rw [hb2.len σ, byteRows_len]
    have bad1 : rcBad s most (n, (l2, bad)) = true → wcode (Dn.Call Γ cx) cx c25_k1 [(2, .ref 0 0), (4, .ref 1 0), (7, U n), (52, B true)] ⟨[.cells [.d b2, B bad], .cells [.d .nils, B false]], []⟩ (thenQ (Dn.Call Γ cx) cx c25_k0 (endQ .val St.empty [.cell 4 true 2, .tmp 5] fun v _ => RGot v (I (if rcBad s most (n, (l2, bad)) then (0, wrongS) else (n, (l2, bad))).1) (if rcBad s most (n, (l2, bad)) then (0, wrongS) else (n, (l2, bad))).2)) := fun hb => by
      simp -implicitDefEqProofs [body_eq, w_skip, w_ops, w_seq, w_cond, w_block, w_exit, w_ret, q_then_n, q_then_e, q_then_r, q_blk_n, q_blk_e, q_blk_r, q_ops, q_cont, q_end_n, q_end_r, q_end_e, q_loop_n, q_loop_e, q_loop_r, i_nil, i_p, i_alloc, i_box, i_store, i_copy, i_clear, i_make, i_call, i_callv, i_when, t_nil, t_p, t_call, t_alloc, t_box, t_store, kept_nil, t_copy, t_clear, t_make, q_tcont, gsel, List.cons_append, List.nil_append, evalP, evalE, Opd.ev, Env.get, Env.set, Env.pick, putE, initEnv, evalBin, intBin, evalUn, evalConv, goneAll, goneOne, retV, resAll, Res.ev, tupOf, byVals, byValsN, bv_d, bv_da, bv_fl, bv_tl, bn_d, bn_da, bn_fl, bn_tl, cx, Dn.newObj, St.place, St.push, St.spot, St.empty, cell_d, cell_da, cell_agg, cell_ref, cell_sl, cell_fl, cell_tl, cell_map, cell_fn, cell_ifc, loadAt, faddrV, partOf, extractV, mkAgg, ofD, splice, St.setObj, fillV, c25_k1]
      refine use_fn rfl s_wrong rfl ?_
      simp -implicitDefEqProofs [body_eq, w_skip, w_ops, w_seq, w_cond, w_block, w_exit, w_ret, q_then_n, q_then_e, q_then_r, q_blk_n, q_blk_e, q_blk_r, q_ops, q_cont, q_end_n, q_end_r, q_end_e, q_loop_n, q_loop_e, q_loop_r, i_nil, i_p, i_alloc, i_box, i_store, i_copy, i_clear, i_make, i_call, i_callv, i_when, t_nil, t_p, t_call, t_alloc, t_box, t_store, kept_nil, t_copy, t_clear, t_make, q_tcont, gsel, List.cons_append, List.nil_append, evalP, evalE, Opd.ev, Env.get, Env.set, Env.pick, putE, initEnv, evalBin, intBin, evalUn, evalConv, goneAll, goneOne, retV, resAll, Res.ev, tupOf, byVals, byValsN, bv_d, bv_da, bv_fl, bv_tl, bn_d, bn_da, bn_fl, bn_tl, cx, Dn.newObj, St.place, St.push, St.spot, St.empty, cell_d, cell_da, cell_agg, cell_ref, cell_sl, cell_fl, cell_tl, cell_map, cell_fn, cell_ifc, loadAt, faddrV, partOf, extractV, mkAgg, ofD, splice, St.setObj, fillV, hb, ofD]
      exact ⟨_, rfl, .nil⟩
    rcases hE with rfl | rfl
    all_goals
      simp only [c25_k2]
      simp -implicitDefEqProofs [body_eq, w_skip, w_ops, w_seq, w_cond, w_block, w_exit, w_ret, q_then_n, q_then_e, q_then_r, q_blk_n, q_blk_e, q_blk_r, q_ops, q_cont, q_end_n, q_end_r, q_end_e, q_loop_n, q_loop_e, q_loop_r, i_nil, i_p, i_alloc, i_box, i_store, i_copy, i_clear, i_make, i_call, i_callv, i_when, t_nil, t_p, t_call, t_alloc, t_box, t_store, kept_nil, t_copy, t_clear, t_make, q_tcont, gsel, List.cons_append, List.nil_append, evalP, evalE, Opd.ev, Env.get, Env.set, Env.pick, putE, initEnv, evalBin, intBin, evalUn, evalConv, goneAll, goneOne, retV, resAll, Res.ev, tupOf, byVals, byValsN, bv_d, bv_da, bv_fl, bv_tl, bn_d, bn_da, bn_fl, bn_tl, cx, Dn.newObj, St.place, St.push, St.spot, St.empty, cell_d, cell_da, cell_agg, cell_ref, cell_sl, cell_fl, cell_tl, cell_map, cell_fn, cell_ifc, loadAt, faddrV, partOf, extractV, mkAgg, ofD, splice, St.setObj, fillV]
      refine w_drw (fun _ => .val) [2] (by decide +kernel) ?_
      cases bad with
      | true =>
        simp -implicitDefEqProofs [body_eq, w_skip, w_ops, w_seq, w_cond, w_block, w_exit, w_ret, q_then_n, q_then_e, q_then_r, q_blk_n, q_blk_e, q_blk_r, q_ops, q_cont, q_end_n, q_end_r, q_end_e, q_loop_n, q_loop_e, q_loop_r, i_nil, i_p, i_alloc, i_box, i_store, i_copy, i_clear, i_make, i_call, i_callv, i_when, t_nil, t_p, t_call, t_alloc, t_box, t_store, kept_nil, t_copy, t_clear, t_make, q_tcont, gsel, List.cons_append, List.nil_append, evalP, evalE, Opd.ev, Env.get, Env.set, Env.pick, putE, initEnv, evalBin, intBin, evalUn, evalConv, goneAll, goneOne, retV, resAll, Res.ev, tupOf, byVals, byValsN, bv_d, bv_da, bv_fl, bv_tl, bn_d, bn_da, bn_fl, bn_tl, cx, Dn.newObj, St.place, St.push, St.spot, St.empty, cell_d, cell_da, cell_agg, cell_ref, cell_sl, cell_fl, cell_tl, cell_map, cell_fn, cell_ifc, loadAt, faddrV, partOf, extractV, mkAgg, ofD, splice, St.setObj, fillV, room_zero]
        exact bad1 (by simp [rcBad])
      | false =>
        by_cases h1 : most < 0
        · simp -implicitDefEqProofs [body_eq, w_skip, w_ops, w_seq, w_cond, w_block, w_exit, w_ret, q_then_n, q_then_e, q_then_r, q_blk_n, q_blk_e, q_blk_r, q_ops, q_cont, q_end_n, q_end_r, q_end_e, q_loop_n, q_loop_e, q_loop_r, i_nil, i_p, i_alloc, i_box, i_store, i_copy, i_clear, i_make, i_call, i_callv, i_when, t_nil, t_p, t_call, t_alloc, t_box, t_store, kept_nil, t_copy, t_clear, t_make, q_tcont, gsel, List.cons_append, List.nil_append, evalP, evalE, Opd.ev, Env.get, Env.set, Env.pick, putE, initEnv, evalBin, intBin, evalUn, evalConv, goneAll, goneOne, retV, resAll, Res.ev, tupOf, byVals, byValsN, bv_d, bv_da, bv_fl, bv_tl, bn_d, bn_da, bn_fl, bn_tl, cx, Dn.newObj, St.place, St.push, St.spot, St.empty, cell_d, cell_da, cell_agg, cell_ref, cell_sl, cell_fl, cell_tl, cell_map, cell_fn, cell_ifc, loadAt, faddrV, partOf, extractV, mkAgg, ofD, splice, St.setObj, fillV, room_zero, h1]
          exact bad1 (by simp [rcBad, h1])
        have ew : IntKind.u64.wrap most = most := wrap_u64 (by omega) (by omega)
        by_cases h2 : most < n
        · simp -implicitDefEqProofs [body_eq, w_skip, w_ops, w_seq, w_cond, w_block, w_exit, w_ret, q_then_n, q_then_e, q_then_r, q_blk_n, q_blk_e, q_blk_r, q_ops, q_cont, q_end_n, q_end_r, q_end_e, q_loop_n, q_loop_e, q_loop_r, i_nil, i_p, i_alloc, i_box, i_store, i_copy, i_clear, i_make, i_call, i_callv, i_when, t_nil, t_p, t_call, t_alloc, t_box, t_store, kept_nil, t_copy, t_clear, t_make, q_tcont, gsel, List.cons_append, List.nil_append, evalP, evalE, Opd.ev, Env.get, Env.set, Env.pick, putE, initEnv, evalBin, intBin, evalUn, evalConv, goneAll, goneOne, retV, resAll, Res.ev, tupOf, byVals, byValsN, bv_d, bv_da, bv_fl, bv_tl, bn_d, bn_da, bn_fl, bn_tl, cx, Dn.newObj, St.place, St.push, St.spot, St.empty, cell_d, cell_da, cell_agg, cell_ref, cell_sl, cell_fl, cell_tl, cell_map, cell_fn, cell_ifc, loadAt, faddrV, partOf, extractV, mkAgg, ofD, splice, St.setObj, fillV, room_zero, h1, h2, ew]
          exact bad1 (by simp [rcBad, h2])
        have ei : IntKind.i64.wrap n = n := wrap_i64 (by omega) (by omega)
        have hcl := countB_len n
        simp -implicitDefEqProofs [body_eq, w_skip, w_ops, w_seq, w_cond, w_block, w_exit, w_ret, q_then_n, q_then_e, q_then_r, q_blk_n, q_blk_e, q_blk_r, q_ops, q_cont, q_end_n, q_end_r, q_end_e, q_loop_n, q_loop_e, q_loop_r, i_nil, i_p, i_alloc, i_box, i_store, i_copy, i_clear, i_make, i_call, i_callv, i_when, t_nil, t_p, t_call, t_alloc, t_box, t_store, kept_nil, t_copy, t_clear, t_make, q_tcont, gsel, List.cons_append, List.nil_append, evalP, evalE, Opd.ev, Env.get, Env.set, Env.pick, putE, initEnv, evalBin, intBin, evalUn, evalConv, goneAll, goneOne, retV, resAll, Res.ev, tupOf, byVals, byValsN, bv_d, bv_da, bv_fl, bv_tl, bn_d, bn_da, bn_fl, bn_tl, cx, Dn.newObj, St.place, St.push, St.spot, St.empty, cell_d, cell_da, cell_agg, cell_ref, cell_sl, cell_fl, cell_tl, cell_map, cell_fn, cell_ifc, loadAt, faddrV, partOf, extractV, mkAgg, ofD, splice, St.setObj, fillV, room_zero, h1, h2, ew, ei]
        refine use_valN (ds := [I n]) rfl rfl (s_rCountV n (by omega)) (by obtain ⟨z, hz⟩ : ∃ z : D, z = .list (byteRows (countB n)) := ⟨_, rfl⟩; exact ⟨.d z, St.empty, z, rfl, by rw [hz]; exact .list _⟩) ?_
        rintro v s3 ⟨x, rfl, hx⟩
        refine ⟨by simp [V.pure, V.flatv], fun h => by simp [V.borrows] at h, ?_⟩
        have hxl : ∀ σ, lenT σ .slice (.d x) = some (countB n).length := fun σ => by rw [hx.len σ, byteRows_len]
        simp -implicitDefEqProofs [body_eq, w_skip, w_ops, w_seq, w_cond, w_block, w_exit, w_ret, q_then_n, q_then_e, q_then_r, q_blk_n, q_blk_e, q_blk_r, q_ops, q_cont, q_end_n, q_end_r, q_end_e, q_loop_n, q_loop_e, q_loop_r, i_nil, i_p, i_alloc, i_box, i_store, i_copy, i_clear, i_make, i_call, i_callv, i_when, t_nil, t_p, t_call, t_alloc, t_box, t_store, kept_nil, t_copy, t_clear, t_make, q_tcont, gsel, List.cons_append, List.nil_append, evalP, evalE, Opd.ev, Env.get, Env.set, Env.pick, putE, initEnv, evalBin, intBin, evalUn, evalConv, goneAll, goneOne, retV, resAll, Res.ev, tupOf, byVals, byValsN, bv_d, bv_da, bv_fl, bv_tl, bn_d, bn_da, bn_fl, bn_tl, cx, Dn.newObj, St.place, St.push, St.spot, St.empty, cell_d, cell_da, cell_agg, cell_ref, cell_sl, cell_fl, cell_tl, cell_map, cell_fn, cell_ifc, loadAt, faddrV, partOf, extractV, mkAgg, ofD, splice, St.setObj, fillV, hxl, hb2len, hblen, wrap_i64 (n := ((countB n).length : Int) + l2.length) (by omega) (by omega)]
        by_cases h4 : ((countB n).length : Int) + l2.length = s.1.length
        · have hb : rcBad s most (n, (l2, false)) = false := by simp [rcBad, h1, h2, h4]
          simp -implicitDefEqProofs [body_eq, w_skip, w_ops, w_seq, w_cond, w_block, w_exit, w_ret, q_then_n, q_then_e, q_then_r, q_blk_n, q_blk_e, q_blk_r, q_ops, q_cont, q_end_n, q_end_r, q_end_e, q_loop_n, q_loop_e, q_loop_r, i_nil, i_p, i_alloc, i_box, i_store, i_copy, i_clear, i_make, i_call, i_callv, i_when, t_nil, t_p, t_call, t_alloc, t_box, t_store, kept_nil, t_copy, t_clear, t_make, q_tcont, gsel, List.cons_append, List.nil_append, evalP, evalE, Opd.ev, Env.get, Env.set, Env.pick, putE, initEnv, evalBin, intBin, evalUn, evalConv, goneAll, goneOne, retV, resAll, Res.ev, tupOf, byVals, byValsN, bv_d, bv_da, bv_fl, bv_tl, bn_d, bn_da, bn_fl, bn_tl, cx, Dn.newObj, St.place, St.push, St.spot, St.empty, cell_d, cell_da, cell_agg, cell_ref, cell_sl, cell_fl, cell_tl, cell_map, cell_fn, cell_ifc, loadAt, faddrV, partOf, extractV, mkAgg, ofD, splice, St.setObj, fillV, h4, hb, c25_k1, c25_k0, ofD, ei]
          exact ⟨_, rfl, hb2⟩
        · simp -implicitDefEqProofs [body_eq, w_skip, w_ops, w_seq, w_cond, w_block, w_exit, w_ret, q_then_n, q_then_e, q_then_r, q_blk_n, q_blk_e, q_blk_r, q_ops, q_cont, q_end_n, q_end_r, q_end_e, q_loop_n, q_loop_e, q_loop_r, i_nil, i_p, i_alloc, i_box, i_store, i_copy, i_clear, i_make, i_call, i_callv, i_when, t_nil, t_p, t_call, t_alloc, t_box, t_store, kept_nil, t_copy, t_clear, t_make, q_tcont, gsel, List.cons_append, List.nil_append, evalP, evalE, Opd.ev, Env.get, Env.set, Env.pick, putE, initEnv, evalBin, intBin, evalUn, evalConv, goneAll, goneOne, retV, resAll, Res.ev, tupOf, byVals, byValsN, bv_d, bv_da, bv_fl, bv_tl, bn_d, bn_da, bn_fl, bn_tl, cx, Dn.newObj, St.place, St.push, St.spot, St.empty, cell_d, cell_da, cell_agg, cell_ref, cell_sl, cell_fl, cell_tl, cell_map, cell_fn, cell_ifc, loadAt, faddrV, partOf, extractV, mkAgg, ofD, splice, St.setObj, fillV, h4]
          exact bad1 (by simp [rcBad, h4])
  simp -implicitDefEqProofs [body_eq, w_skip, w_ops, w_seq, w_cond, w_block, w_exit, w_ret, q_then_n, q_then_e, q_then_r, q_blk_n, q_blk_e, q_blk_r, q_ops, q_cont, q_end_n, q_end_r, q_end_e, q_loop_n, q_loop_e, q_loop_r, i_nil, i_p, i_alloc, i_box, i_store, i_copy, i_clear, i_make, i_call, i_callv, i_when, t_nil, t_p, t_call, t_alloc, t_box, t_store, kept_nil, t_copy, t_clear, t_make, q_tcont, gsel, List.cons_append, List.nil_append, evalP, evalE, Opd.ev, Env.get, Env.set, Env.pick, putE, initEnv, evalBin, intBin, evalUn, evalConv, goneAll, goneOne, retV, resAll, Res.ev, tupOf, byVals, byValsN, bv_d, bv_da, bv_fl, bv_tl, bn_d, bn_da, bn_fl, bn_tl, cx, Dn.newObj, St.place, St.push, St.spot, St.empty, cell_d, cell_da, cell_agg, cell_ref, cell_sl, cell_fl, cell_tl, cell_map, cell_fn, cell_ifc, loadAt, faddrV, partOf, extractV, mkAgg, ofD, splice, St.setObj, fillV, c25, c25_k12, c25_k11, ofD]
  refine use_val (ds := [.da [b, .bool s.2], I 1]) rfl (s_ReadNum h hl 1) ?_
  rintro v s1 ⟨b1, rfl, hb1⟩
  refine ⟨by simp [V.pure, V.flatv], fun h => by simp [V.borrows] at h, ?_⟩
  simp -implicitDefEqProofs [body_eq, w_skip, w_ops, w_seq, w_cond, w_block, w_exit, w_ret, q_then_n, q_then_e, q_then_r, q_blk_n, q_blk_e, q_blk_r, q_ops, q_cont, q_end_n, q_end_r, q_end_e, q_loop_n, q_loop_e, q_loop_r, i_nil, i_p, i_alloc, i_box, i_store, i_copy, i_clear, i_make, i_call, i_callv, i_when, t_nil, t_p, t_call, t_alloc, t_box, t_store, kept_nil, t_copy, t_clear, t_make, q_tcont, gsel, List.cons_append, List.nil_append, evalP, evalE, Opd.ev, Env.get, Env.set, Env.pick, putE, initEnv, evalBin, intBin, evalUn, evalConv, goneAll, goneOne, retV, resAll, Res.ev, tupOf, byVals, byValsN, bv_d, bv_da, bv_fl, bv_tl, bn_d, bn_da, bn_fl, bn_tl, cx, Dn.newObj, St.place, St.push, St.spot, St.empty, cell_d, cell_da, cell_agg, cell_ref, cell_sl, cell_fl, cell_tl, cell_map, cell_fn, cell_ifc, loadAt, faddrV, partOf, extractV, mkAgg, ofD, splice, St.setObj, fillV]
  have hrc : rcN s = if 253 ≤ (numS s 1).1 then numS (numS s 1).2 (if (numS s 1).1 = 255 then 8 else if (numS s 1).1 = 254 then 4 else 2) else numS s 1 := rfl
  have hl1 := numS_len s 1
  have hlt1 := numS_lt s 1
  obtain ⟨⟨n, l1, bad1⟩, hn1⟩ : ∃ p, p = numS s 1 := ⟨_, rfl⟩
  rw [← hn1] at hb1 hl1 hrc hlt1
  rw [← hn1]
  simp only at hb1 hl1 hrc hlt1
  by_cases hn : 253 ≤ n
  rotate_left
  · rw [if_neg hn] at hrc
    simp -implicitDefEqProofs [body_eq, w_skip, w_ops, w_seq, w_cond, w_block, w_exit, w_ret, q_then_n, q_then_e, q_then_r, q_blk_n, q_blk_e, q_blk_r, q_ops, q_cont, q_end_n, q_end_r, q_end_e, q_loop_n, q_loop_e, q_loop_r, i_nil, i_p, i_alloc, i_box, i_store, i_copy, i_clear, i_make, i_call, i_callv, i_when, t_nil, t_p, t_call, t_alloc, t_box, t_store, kept_nil, t_copy, t_clear, t_make, q_tcont, gsel, List.cons_append, List.nil_append, evalP, evalE, Opd.ev, Env.get, Env.set, Env.pick, putE, initEnv, evalBin, intBin, evalUn, evalConv, goneAll, goneOne, retV, resAll, Res.ev, tupOf, byVals, byValsN, bv_d, bv_da, bv_fl, bv_tl, bn_d, bn_da, bn_fl, bn_tl, cx, Dn.newObj, St.place, St.push, St.spot, St.empty, cell_d, cell_da, cell_agg, cell_ref, cell_sl, cell_fl, cell_tl, cell_map, cell_fn, cell_ifc, loadAt, faddrV, partOf, extractV, mkAgg, ofD, splice, St.setObj, fillV, hn, c25_k10, c25_k9]
    exact fin n b1 (l1, bad1) _ hrc hb1 hl1 (.inl rfl)
  rw [if_pos hn] at hrc
  -- the second number
  have sec : ∀ (z : Int) (E : Env), (E = (21, B false) :: anys ∨ E = anys) → rcN s = numS (l1, bad1) z → wcode (Dn.Call Γ cx) cx c25_k3 ([(1, I most), (2, .ref 0 0), (4, .ref 1 0), (6, .d b), (8, I z)] ++ E) ⟨[.cells [.d b1, B bad1], .cells [.d .nils, B false]], []⟩ (thenQ (Dn.Call Γ cx) cx c25_k2 (endQ .val St.empty [.cell 4 true 2, .tmp 5] fun v _ => RGot v (I (countS s most).1) (countS s most).2)) := by
    intro z E hE hz
    rcases hE with rfl | rfl
    all_goals
      simp -implicitDefEqProofs [body_eq, w_skip, w_ops, w_seq, w_cond, w_block, w_exit, w_ret, q_then_n, q_then_e, q_then_r, q_blk_n, q_blk_e, q_blk_r, q_ops, q_cont, q_end_n, q_end_r, q_end_e, q_loop_n, q_loop_e, q_loop_r, i_nil, i_p, i_alloc, i_box, i_store, i_copy, i_clear, i_make, i_call, i_callv, i_when, t_nil, t_p, t_call, t_alloc, t_box, t_store, kept_nil, t_copy, t_clear, t_make, q_tcont, gsel, List.cons_append, List.nil_append, evalP, evalE, Opd.ev, Env.get, Env.set, Env.pick, putE, initEnv, evalBin, intBin, evalUn, evalConv, goneAll, goneOne, retV, resAll, Res.ev, tupOf, byVals, byValsN, bv_d, bv_da, bv_fl, bv_tl, bn_d, bn_da, bn_fl, bn_tl, cx, Dn.newObj, St.place, St.push, St.spot, St.empty, cell_d, cell_da, cell_agg, cell_ref, cell_sl, cell_fl, cell_tl, cell_map, cell_fn, cell_ifc, loadAt, faddrV, partOf, extractV, mkAgg, ofD, splice, St.setObj, fillV, c25_k3, ofD]
      refine use_val (ds := [.da [b1, .bool bad1], I z]) rfl (s_ReadNum (s := (l1, bad1)) hb1 (Nat.le_trans hl1 hl) z) ?_
      rintro v s1 ⟨b3, rfl, hb3⟩
      refine ⟨by simp [V.pure, V.flatv], fun h => by simp [V.borrows] at h, ?_⟩
      simp -implicitDefEqProofs [body_eq, w_skip, w_ops, w_seq, w_cond, w_block, w_exit, w_ret, q_then_n, q_then_e, q_then_r, q_blk_n, q_blk_e, q_blk_r, q_ops, q_cont, q_end_n, q_end_r, q_end_e, q_loop_n, q_loop_e, q_loop_r, i_nil, i_p, i_alloc, i_box, i_store, i_copy, i_clear, i_make, i_call, i_callv, i_when, t_nil, t_p, t_call, t_alloc, t_box, t_store, kept_nil, t_copy, t_clear, t_make, q_tcont, gsel, List.cons_append, List.nil_append, evalP, evalE, Opd.ev, Env.get, Env.set, Env.pick, putE, initEnv, evalBin, intBin, evalUn, evalConv, goneAll, goneOne, retV, resAll, Res.ev, tupOf, byVals, byValsN, bv_d, bv_da, bv_fl, bv_tl, bn_d, bn_da, bn_fl, bn_tl, cx, Dn.newObj, St.place, St.push, St.spot, St.empty, cell_d, cell_da, cell_agg, cell_ref, cell_sl, cell_fl, cell_tl, cell_map, cell_fn, cell_ifc, loadAt, faddrV, partOf, extractV, mkAgg, ofD, splice, St.setObj, fillV]
      exact fin (numS (l1, bad1) z).1 b3 (numS (l1, bad1) z).2 _ hz hb3 (Nat.le_trans (numS_len _ _) hl1) (.inr rfl)
  by_cases h255 : n = 255
  · rw [if_pos h255] at hrc
    simp -implicitDefEqProofs [body_eq, w_skip, w_ops, w_seq, w_cond, w_block, w_exit, w_ret, q_then_n, q_then_e, q_then_r, q_blk_n, q_blk_e, q_blk_r, q_ops, q_cont, q_end_n, q_end_r, q_end_e, q_loop_n, q_loop_e, q_loop_r, i_nil, i_p, i_alloc, i_box, i_store, i_copy, i_clear, i_make, i_call, i_callv, i_when, t_nil, t_p, t_call, t_alloc, t_box, t_store, kept_nil, t_copy, t_clear, t_make, q_tcont, gsel, List.cons_append, List.nil_append, evalP, evalE, Opd.ev, Env.get, Env.set, Env.pick, putE, initEnv, evalBin, intBin, evalUn, evalConv, goneAll, goneOne, retV, resAll, Res.ev, tupOf, byVals, byValsN, bv_d, bv_da, bv_fl, bv_tl, bn_d, bn_da, bn_fl, bn_tl, cx, Dn.newObj, St.place, St.push, St.spot, St.empty, cell_d, cell_da, cell_agg, cell_ref, cell_sl, cell_fl, cell_tl, cell_map, cell_fn, cell_ifc, loadAt, faddrV, partOf, extractV, mkAgg, ofD, splice, St.setObj, fillV, hn, h255, c25_k10, c25_k9, c25_k8, c25_k7, c25_k6, c25_k5, c25_k4]
    exact sec 8 _ (.inr rfl) hrc
  rw [if_neg h255] at hrc
  by_cases h254 : n = 254
  · rw [if_pos h254] at hrc
    simp -implicitDefEqProofs [body_eq, w_skip, w_ops, w_seq, w_cond, w_block, w_exit, w_ret, q_then_n, q_then_e, q_then_r, q_blk_n, q_blk_e, q_blk_r, q_ops, q_cont, q_end_n, q_end_r, q_end_e, q_loop_n, q_loop_e, q_loop_r, i_nil, i_p, i_alloc, i_box, i_store, i_copy, i_clear, i_make, i_call, i_callv, i_when, t_nil, t_p, t_call, t_alloc, t_box, t_store, kept_nil, t_copy, t_clear, t_make, q_tcont, gsel, List.cons_append, List.nil_append, evalP, evalE, Opd.ev, Env.get, Env.set, Env.pick, putE, initEnv, evalBin, intBin, evalUn, evalConv, goneAll, goneOne, retV, resAll, Res.ev, tupOf, byVals, byValsN, bv_d, bv_da, bv_fl, bv_tl, bn_d, bn_da, bn_fl, bn_tl, cx, Dn.newObj, St.place, St.push, St.spot, St.empty, cell_d, cell_da, cell_agg, cell_ref, cell_sl, cell_fl, cell_tl, cell_map, cell_fn, cell_ifc, loadAt, faddrV, partOf, extractV, mkAgg, ofD, splice, St.setObj, fillV, hn, h254, c25_k10, c25_k9, c25_k8, c25_k7, c25_k6, c25_k5, c25_k4]
    exact sec 4 _ (.inl rfl) hrc
  · rw [if_neg h254] at hrc
    simp -implicitDefEqProofs [body_eq, w_skip, w_ops, w_seq, w_cond, w_block, w_exit, w_ret, q_then_n, q_then_e, q_then_r, q_blk_n, q_blk_e, q_blk_r, q_ops, q_cont, q_end_n, q_end_r, q_end_e, q_loop_n, q_loop_e, q_loop_r, i_nil, i_p, i_alloc, i_box, i_store, i_copy, i_clear, i_make, i_call, i_callv, i_when, t_nil, t_p, t_call, t_alloc, t_box, t_store, kept_nil, t_copy, t_clear, t_make, q_tcont, gsel, List.cons_append, List.nil_append, evalP, evalE, Opd.ev, Env.get, Env.set, Env.pick, putE, initEnv, evalBin, intBin, evalUn, evalConv, goneAll, goneOne, retV, resAll, Res.ev, tupOf, byVals, byValsN, bv_d, bv_da, bv_fl, bv_tl, bn_d, bn_da, bn_fl, bn_tl, cx, Dn.newObj, St.place, St.push, St.spot, St.empty, cell_d, cell_da, cell_agg, cell_ref, cell_sl, cell_fl, cell_tl, cell_map, cell_fn, cell_ifc, loadAt, faddrV, partOf, extractV, mkAgg, ofD, splice, St.setObj, fillV, hn, h254, h255, c25_k10, c25_k9, c25_k8, c25_k7, c25_k6, c25_k5, c25_k4]
    exact sec 2 _ (.inl rfl) hrc

end Go.Proofs.Ytjkedjjahjlmfaa.T

namespace Go.Proofs.Ytjkedjjahjlmfaa.T
open Go.Dn
set_option linter.unusedSimpArgs false
set_option linter.unusedVariables false

theorem s_ReadText {b : D} {s : Rd} (h : LV (.d b) (byteRows s.1)) (hl : s.1.length ≤ 1099511627776) (most : Int) (hm : most ≤ 9223372036854775807) :
    Dn.Call Γ cx .val 27 [.da [b, .bool s.2], I most] St.empty fun v _ => RGot v (.d (.str (textS s most).1)) (textS s most).2 := by
  refine Dn.Call.body (fc := c27) rfl ?_
  simp -implicitDefEqProofs [body_eq, w_skip, w_ops, w_seq, w_cond, w_block, w_exit, w_ret, q_then_n, q_then_e, q_then_r, q_blk_n, q_blk_e, q_blk_r, q_ops, q_cont, q_end_n, q_end_r, q_end_e, q_loop_n, q_loop_e, q_loop_r, i_nil, i_p, i_alloc, i_box, i_store, i_copy, i_clear, i_make, i_call, i_callv, i_when, t_nil, t_p, t_call, t_alloc, t_box, t_store, kept_nil, t_copy, t_clear, t_make, q_tcont, gsel, List.cons_append, List.nil_append, evalP, evalE, Opd.ev, Env.get, Env.set, Env.pick, putE, initEnv, evalBin, intBin, evalUn, evalConv, goneAll, goneOne, retV, resAll, Res.ev, tupOf, byVals, byValsN, bv_d, bv_da, bv_fl, bv_tl, bn_d, bn_da, bn_fl, bn_tl, cx, Dn.newObj, St.place, St.push, St.spot, St.empty, cell_d, cell_da, cell_agg, cell_ref, cell_sl, cell_fl, cell_tl, cell_map, cell_fn, cell_ifc, loadAt, faddrV, partOf, extractV, mkAgg, ofD, splice, St.setObj, fillV, c27, c27_k3, ofD]
  refine use_val (ds := [.da [b, .bool s.2], I most]) rfl (s_ReadCount h hl most hm) ?_
  rintro v s1 ⟨b1, rfl, hb1⟩
  refine ⟨by simp [V.pure, V.flatv], fun h => by simp [V.borrows] at h, ?_⟩
  have hts : textS s most = nextS (countS s most).2 (countS s most).1 := rfl
  have hcl := countS_len s most
  have hn0 : 0 ≤ (countS s most).1 := by
    rw [countS_ref]
    split
    · simp
    · exact (rcN_lt s).1
  obtain ⟨⟨n, l, bad⟩, hc⟩ : ∃ p, p = countS s most := ⟨_, rfl⟩
  rw [hts, ← hc]
  rw [← hc] at hb1 hcl hn0
  simp only at hb1 hcl hn0
  have hlen : ∀ σ, lenT σ .slice (.d b1) = some l.length := fun σ => by rw [hb1.len σ, byteRows_len]
  have hlv : ∀ σ, lenV σ (.d b1) = some l.length := fun σ => by rw [hb1.lenV σ, byteRows_len]
  have bad1 : noNext (l, bad) n = true → wcode (Dn.Call Γ cx) cx c27_k1 [(2, .ref 0 0), (4, .ref 1 0), (6, I n), (21, B true)] ⟨[.cells [.d b1, B bad], .cells [.d .nils, B false]], []⟩ (thenQ (Dn.Call Γ cx) cx c27_k0 (endQ .val St.empty [.cell 4 true 2, .tmp 5] fun v _ => RGot v (.d (.str (nextS (l, bad) n).1)) (nextS (l, bad) n).2)) := fun hb => by
    simp -implicitDefEqProofs [body_eq, w_skip, w_ops, w_seq, w_cond, w_block, w_exit, w_ret, q_then_n, q_then_e, q_then_r, q_blk_n, q_blk_e, q_blk_r, q_ops, q_cont, q_end_n, q_end_r, q_end_e, q_loop_n, q_loop_e, q_loop_r, i_nil, i_p, i_alloc, i_box, i_store, i_copy, i_clear, i_make, i_call, i_callv, i_when, t_nil, t_p, t_call, t_alloc, t_box, t_store, kept_nil, t_copy, t_clear, t_make, q_tcont, gsel, List.cons_append, List.nil_append, evalP, evalE, Opd.ev, Env.get, Env.set, Env.pick, putE, initEnv, evalBin, intBin, evalUn, evalConv, goneAll, goneOne, retV, resAll, Res.ev, tupOf, byVals, byValsN, bv_d, bv_da, bv_fl, bv_tl, bn_d, bn_da, bn_fl, bn_tl, cx, Dn.newObj, St.place, St.push, St.spot, St.empty, cell_d, cell_da, cell_agg, cell_ref, cell_sl, cell_fl, cell_tl, cell_map, cell_fn, cell_ifc, loadAt, faddrV, partOf, extractV, mkAgg, ofD, splice, St.setObj, fillV, c27_k1]
    refine use_fn rfl s_wrong rfl ?_
    simp -implicitDefEqProofs [body_eq, w_skip, w_ops, w_seq, w_cond, w_block, w_exit, w_ret, q_then_n, q_then_e, q_then_r, q_blk_n, q_blk_e, q_blk_r, q_ops, q_cont, q_end_n, q_end_r, q_end_e, q_loop_n, q_loop_e, q_loop_r, i_nil, i_p, i_alloc, i_box, i_store, i_copy, i_clear, i_make, i_call, i_callv, i_when, t_nil, t_p, t_call, t_alloc, t_box, t_store, kept_nil, t_copy, t_clear, t_make, q_tcont, gsel, List.cons_append, List.nil_append, evalP, evalE, Opd.ev, Env.get, Env.set, Env.pick, putE, initEnv, evalBin, intBin, evalUn, evalConv, goneAll, goneOne, retV, resAll, Res.ev, tupOf, byVals, byValsN, bv_d, bv_da, bv_fl, bv_tl, bn_d, bn_da, bn_fl, bn_tl, cx, Dn.newObj, St.place, St.push, St.spot, St.empty, cell_d, cell_da, cell_agg, cell_ref, cell_sl, cell_fl, cell_tl, cell_map, cell_fn, cell_ifc, loadAt, faddrV, partOf, extractV, mkAgg, ofD, splice, St.setObj, fillV, nextS, hb, ofD]
    exact ⟨_, rfl, .nil⟩
  cases bad with
  | true =>
    simp -implicitDefEqProofs [body_eq, w_skip, w_ops, w_seq, w_cond, w_block, w_exit, w_ret, q_then_n, q_then_e, q_then_r, q_blk_n, q_blk_e, q_blk_r, q_ops, q_cont, q_end_n, q_end_r, q_end_e, q_loop_n, q_loop_e, q_loop_r, i_nil, i_p, i_alloc, i_box, i_store, i_copy, i_clear, i_make, i_call, i_callv, i_when, t_nil, t_p, t_call, t_alloc, t_box, t_store, kept_nil, t_copy, t_clear, t_make, q_tcont, gsel, List.cons_append, List.nil_append, evalP, evalE, Opd.ev, Env.get, Env.set, Env.pick, putE, initEnv, evalBin, intBin, evalUn, evalConv, goneAll, goneOne, retV, resAll, Res.ev, tupOf, byVals, byValsN, bv_d, bv_da, bv_fl, bv_tl, bn_d, bn_da, bn_fl, bn_tl, cx, Dn.newObj, St.place, St.push, St.spot, St.empty, cell_d, cell_da, cell_agg, cell_ref, cell_sl, cell_fl, cell_tl, cell_map, cell_fn, cell_ifc, loadAt, faddrV, partOf, extractV, mkAgg, ofD, splice, St.setObj, fillV, c27_k2]
    exact bad1 (by simp [noNext])
  | false =>
    by_cases hz : (l.length : Int) < n
    · simp -implicitDefEqProofs [body_eq, w_skip, w_ops, w_seq, w_cond, w_block, w_exit, w_ret, q_then_n, q_then_e, q_then_r, q_blk_n, q_blk_e, q_blk_r, q_ops, q_cont, q_end_n, q_end_r, q_end_e, q_loop_n, q_loop_e, q_loop_r, i_nil, i_p, i_alloc, i_box, i_store, i_copy, i_clear, i_make, i_call, i_callv, i_when, t_nil, t_p, t_call, t_alloc, t_box, t_store, kept_nil, t_copy, t_clear, t_make, q_tcont, gsel, List.cons_append, List.nil_append, evalP, evalE, Opd.ev, Env.get, Env.set, Env.pick, putE, initEnv, evalBin, intBin, evalUn, evalConv, goneAll, goneOne, retV, resAll, Res.ev, tupOf, byVals, byValsN, bv_d, bv_da, bv_fl, bv_tl, bn_d, bn_da, bn_fl, bn_tl, cx, Dn.newObj, St.place, St.push, St.spot, St.empty, cell_d, cell_da, cell_agg, cell_ref, cell_sl, cell_fl, cell_tl, cell_map, cell_fn, cell_ifc, loadAt, faddrV, partOf, extractV, mkAgg, ofD, splice, St.setObj, fillV, c27_k2, hlen, hz]
      exact bad1 (by simp [noNext, hz])
    have hnn : noNext (l, false) n = false := by simp [noNext]; omega
    obtain ⟨k, rfl⟩ : ∃ k : Nat, n = k := ⟨n.toNat, by omega⟩
    have hki : (k : Int) ≤ l.length := by omega
    have hk : k ≤ l.length := by omega
    obtain ⟨b2, hb2, hlb2⟩ := sliceD hb1 (sz := 1) (byteRows_fit _) (lo := k) (hi := l.length) hk (by rw [byteRows_len]; exact Nat.le_refl _)
    rw [byteRows_drop, List.take_of_length_le (by simp [byteRows_len])] at hlb2
    obtain ⟨b3, hb3, hlb3⟩ := sliceD hb1 (sz := 1) (byteRows_fit _) (lo := 0) (hi := k) (by omega) (by rw [byteRows_len]; exact hk)
    rw [List.drop_zero, Nat.sub_zero, byteRows_take] at hlb3
    have hsl2 : ∀ σ, sliceX σ 1 (.d b1) (some (I k)) none none = some (.d b2) := fun σ => by simp [sliceX, hlv, boundV, asIdx, hb2, hki]
    have hsl3 : ∀ σ, sliceX σ 1 (.d b1) none (some (I k)) none = some (.d b3) := fun σ => by simp [sliceX, hlv, boundV, asIdx, hb3, hki]
    have hnx : nextS (l, false) k = (l.take k, (l.drop k, false)) := by simp [nextS, hnn]
    simp -implicitDefEqProofs [body_eq, w_skip, w_ops, w_seq, w_cond, w_block, w_exit, w_ret, q_then_n, q_then_e, q_then_r, q_blk_n, q_blk_e, q_blk_r, q_ops, q_cont, q_end_n, q_end_r, q_end_e, q_loop_n, q_loop_e, q_loop_r, i_nil, i_p, i_alloc, i_box, i_store, i_copy, i_clear, i_make, i_call, i_callv, i_when, t_nil, t_p, t_call, t_alloc, t_box, t_store, kept_nil, t_copy, t_clear, t_make, q_tcont, gsel, List.cons_append, List.nil_append, evalP, evalE, Opd.ev, Env.get, Env.set, Env.pick, putE, initEnv, evalBin, intBin, evalUn, evalConv, goneAll, goneOne, retV, resAll, Res.ev, tupOf, byVals, byValsN, bv_d, bv_da, bv_fl, bv_tl, bn_d, bn_da, bn_fl, bn_tl, cx, Dn.newObj, St.place, St.push, St.spot, St.empty, cell_d, cell_da, cell_agg, cell_ref, cell_sl, cell_fl, cell_tl, cell_map, cell_fn, cell_ifc, loadAt, faddrV, partOf, extractV, mkAgg, ofD, splice, St.setObj, fillV, c27_k2, hlen, hz, c27_k1, c27_k0]
    refine w_drwD (fun _ => .val) [31] [2, 2] (by decide +kernel) ?_
    simp -implicitDefEqProofs [body_eq, w_skip, w_ops, w_seq, w_cond, w_block, w_exit, w_ret, q_then_n, q_then_e, q_then_r, q_blk_n, q_blk_e, q_blk_r, q_ops, q_cont, q_end_n, q_end_r, q_end_e, q_loop_n, q_loop_e, q_loop_r, i_nil, i_p, i_alloc, i_box, i_store, i_copy, i_clear, i_make, i_call, i_callv, i_when, t_nil, t_p, t_call, t_alloc, t_box, t_store, kept_nil, t_copy, t_clear, t_make, q_tcont, gsel, List.cons_append, List.nil_append, evalP, evalE, Opd.ev, Env.get, Env.set, Env.pick, putE, initEnv, evalBin, intBin, evalUn, evalConv, goneAll, goneOne, retV, resAll, Res.ev, tupOf, byVals, byValsN, bv_d, bv_da, bv_fl, bv_tl, bn_d, bn_da, bn_fl, bn_tl, cx, Dn.newObj, St.place, St.push, St.spot, St.empty, cell_d, cell_da, cell_agg, cell_ref, cell_sl, cell_fl, cell_tl, cell_map, cell_fn, cell_ifc, loadAt, faddrV, partOf, extractV, mkAgg, ofD, splice, St.setObj, fillV, room_zero, hsl2, hsl3, hlb3.rows _, rowBytes_byteRows, ofD, hnx, DOp.reads, DOp.gslot, Ins.reads, POp.reads, Opd.slots, dref, Kept]
    exact ⟨_, rfl, hlb2⟩

def InvRHash2 (b : D) (l : List UInt8) (m : Nat) (e : Env) (σ : St) : Prop := ∃ (i : Nat) (cs : List UInt8), e = [(1, .ref 0 0), (2, .ref 1 0), (3, .ref 2 0), (4, .ref 3 0), (5, I i)] ∧ i ≤ 32 ∧ m = 32 - i ∧ cs.length = 32 ∧ cs.take i = l.take i ∧ σ = ⟨[.cells [.d b, B false], .cells [.d .nils, B false], .cells (List.replicate 32 (.d (.int .u8 0))), .cells ((hd cs).map V.d)], []⟩

theorem s_ReadHash {b : D} {s : Rd} (h : LV (.d b) (byteRows s.1)) (hl : s.1.length ≤ 1099511627776) :
    Dn.Call Γ cx .val 29 [.da [b, .bool s.2]] St.empty fun v _ => RGot v (.da (hd (hashS s).1)) (hashS s).2 := by
  refine Dn.Call.body (fc := c29) rfl ?_
  obtain ⟨l, bad⟩ := s
  simp only at h hl ⊢
  have hlen : ∀ σ, lenT σ .slice (.d b) = some l.length := fun σ => by rw [h.len σ, byteRows_len]
  have hz : ofD (List.replicate 32 (V.d (.int .u8 0))) = some (hd (List.replicate 32 0)) := by
    have : List.replicate 32 (V.d (.int .u8 0)) = (hd (List.replicate 32 0)).map V.d := by simp [hd, -List.reduceReplicate]
    rw [this, ofD_hd]
  have bad1 : noNext (l, bad) 32 = true → wcode (Dn.Call Γ cx) cx c29_k7 [(1, .ref 0 0), (2, .ref 1 0), (3, .ref 2 0), (4, .ref 3 0), (13, B true)] ⟨[.cells [.d b, B bad], .cells [.d .nils, B false], .cells (List.replicate 32 (.d (.int .u8 0))), .cells (List.replicate 32 (.d (.int .u8 0)))], []⟩ (thenQ (Dn.Call Γ cx) cx c29_k6 (endQ .val St.empty [.cell 2 true 2, .cell 3 true 32] fun v _ => RGot v (.da (hd (hashS (l, bad)).1)) (hashS (l, bad)).2)) := fun hb => by
    have hh : hashS (l, bad) = (List.replicate 32 0, wrongS) := by simp [hashS, nextS, hb, -List.reduceReplicate]
    simp only [c29_k7]
    simp -implicitDefEqProofs [body_eq, w_skip, w_ops, w_seq, w_cond, w_block, w_exit, w_ret, q_then_n, q_then_e, q_then_r, q_blk_n, q_blk_e, q_blk_r, q_ops, q_cont, q_end_n, q_end_r, q_end_e, q_loop_n, q_loop_e, q_loop_r, i_nil, i_p, i_alloc, i_box, i_store, i_copy, i_clear, i_make, i_call, i_callv, i_when, t_nil, t_p, t_call, t_alloc, t_box, t_store, kept_nil, t_copy, t_clear, t_make, q_tcont, gsel, List.cons_append, List.nil_append, evalP, evalE, Opd.ev, Env.get, Env.set, Env.pick, putE, initEnv, evalBin, intBin, evalUn, evalConv, goneAll, goneOne, retV, resAll, Res.ev, tupOf, byVals, byValsN, bv_d, bv_da, bv_fl, bv_tl, bn_d, bn_da, bn_fl, bn_tl, cx, Dn.newObj, St.place, St.push, St.spot, St.empty, cell_d, cell_da, cell_agg, cell_ref, cell_sl, cell_fl, cell_tl, cell_map, cell_fn, cell_ifc, loadAt, faddrV, partOf, extractV, mkAgg, ofD, splice, St.setObj, fillV, -List.reduceReplicate]
    refine w_drw (fun _ => .val) [4] (by decide +kernel) ?_
    simp -implicitDefEqProofs [body_eq, w_skip, w_ops, w_seq, w_cond, w_block, w_exit, w_ret, q_then_n, q_then_e, q_then_r, q_blk_n, q_blk_e, q_blk_r, q_ops, q_cont, q_end_n, q_end_r, q_end_e, q_loop_n, q_loop_e, q_loop_r, i_nil, i_p, i_alloc, i_box, i_store, i_copy, i_clear, i_make, i_call, i_callv, i_when, t_nil, t_p, t_call, t_alloc, t_box, t_store, kept_nil, t_copy, t_clear, t_make, q_tcont, gsel, List.cons_append, List.nil_append, evalP, evalE, Opd.ev, Env.get, Env.set, Env.pick, putE, initEnv, evalBin, intBin, evalUn, evalConv, goneAll, goneOne, retV, resAll, Res.ev, tupOf, byVals, byValsN, bv_d, bv_da, bv_fl, bv_tl, bn_d, bn_da, bn_fl, bn_tl, cx, Dn.newObj, St.place, St.push, St.spot, St.empty, cell_d, cell_da, cell_agg, cell_ref, cell_sl, cell_fl, cell_tl, cell_map, cell_fn, cell_ifc, loadAt, faddrV, partOf, extractV, mkAgg, ofD, splice, St.setObj, fillV, room_zero, -List.reduceReplicate]
    refine use_fnN rfl rfl s_wrong rfl ?_
    have htk0 : List.take 32 (List.map V.d (hd (List.replicate 32 0))) = List.map V.d (hd (List.replicate 32 0)) := List.take_of_length_le (by simp [hd, -List.reduceReplicate])
    simp -implicitDefEqProofs [body_eq, w_skip, w_ops, w_seq, w_cond, w_block, w_exit, w_ret, q_then_n, q_then_e, q_then_r, q_blk_n, q_blk_e, q_blk_r, q_ops, q_cont, q_end_n, q_end_r, q_end_e, q_loop_n, q_loop_e, q_loop_r, i_nil, i_p, i_alloc, i_box, i_store, i_copy, i_clear, i_make, i_call, i_callv, i_when, t_nil, t_p, t_call, t_alloc, t_box, t_store, kept_nil, t_copy, t_clear, t_make, q_tcont, gsel, List.cons_append, List.nil_append, evalP, evalE, Opd.ev, Env.get, Env.set, Env.pick, putE, initEnv, evalBin, intBin, evalUn, evalConv, goneAll, goneOne, retV, resAll, Res.ev, tupOf, byVals, byValsN, bv_d, bv_da, bv_fl, bv_tl, bn_d, bn_da, bn_fl, bn_tl, cx, Dn.newObj, St.place, St.push, St.spot, St.empty, cell_d, cell_da, cell_agg, cell_ref, cell_sl, cell_fl, cell_tl, cell_map, cell_fn, cell_ifc, loadAt, faddrV, partOf, extractV, mkAgg, ofD, splice, St.setObj, fillV, room_zero, -List.reduceReplicate, hz, hh, ofD, hd_len, Kept, Env.get, dref, htk0, ofD_hd]
    exact ⟨_, rfl, .nil⟩
  cases bad with
  | true =>
    simp -implicitDefEqProofs [body_eq, w_skip, w_ops, w_seq, w_cond, w_block, w_exit, w_ret, q_then_n, q_then_e, q_then_r, q_blk_n, q_blk_e, q_blk_r, q_ops, q_cont, q_end_n, q_end_r, q_end_e, q_loop_n, q_loop_e, q_loop_r, i_nil, i_p, i_alloc, i_box, i_store, i_copy, i_clear, i_make, i_call, i_callv, i_when, t_nil, t_p, t_call, t_alloc, t_box, t_store, kept_nil, t_copy, t_clear, t_make, q_tcont, gsel, List.cons_append, List.nil_append, evalP, evalE, Opd.ev, Env.get, Env.set, Env.pick, putE, initEnv, evalBin, intBin, evalUn, evalConv, goneAll, goneOne, retV, resAll, Res.ev, tupOf, byVals, byValsN, bv_d, bv_da, bv_fl, bv_tl, bn_d, bn_da, bn_fl, bn_tl, cx, Dn.newObj, St.place, St.push, St.spot, St.empty, cell_d, cell_da, cell_agg, cell_ref, cell_sl, cell_fl, cell_tl, cell_map, cell_fn, cell_ifc, loadAt, faddrV, partOf, extractV, mkAgg, ofD, splice, St.setObj, fillV, -List.reduceReplicate, c29, c29_k9, c29_k8]
    exact bad1 (by simp [noNext])
  | false =>
    by_cases hz : (l.length : Int) < 32
    · simp -implicitDefEqProofs [body_eq, w_skip, w_ops, w_seq, w_cond, w_block, w_exit, w_ret, q_then_n, q_then_e, q_then_r, q_blk_n, q_blk_e, q_blk_r, q_ops, q_cont, q_end_n, q_end_r, q_end_e, q_loop_n, q_loop_e, q_loop_r, i_nil, i_p, i_alloc, i_box, i_store, i_copy, i_clear, i_make, i_call, i_callv, i_when, t_nil, t_p, t_call, t_alloc, t_box, t_store, kept_nil, t_copy, t_clear, t_make, q_tcont, gsel, List.cons_append, List.nil_append, evalP, evalE, Opd.ev, Env.get, Env.set, Env.pick, putE, initEnv, evalBin, intBin, evalUn, evalConv, goneAll, goneOne, retV, resAll, Res.ev, tupOf, byVals, byValsN, bv_d, bv_da, bv_fl, bv_tl, bn_d, bn_da, bn_fl, bn_tl, cx, Dn.newObj, St.place, St.push, St.spot, St.empty, cell_d, cell_da, cell_agg, cell_ref, cell_sl, cell_fl, cell_tl, cell_map, cell_fn, cell_ifc, loadAt, faddrV, partOf, extractV, mkAgg, ofD, splice, St.setObj, fillV, -List.reduceReplicate, c29, c29_k9, c29_k8, hlen, hz]
      exact bad1 (by simp [noNext, hz])
    simp -implicitDefEqProofs [body_eq, w_skip, w_ops, w_seq, w_cond, w_block, w_exit, w_ret, q_then_n, q_then_e, q_then_r, q_blk_n, q_blk_e, q_blk_r, q_ops, q_cont, q_end_n, q_end_r, q_end_e, q_loop_n, q_loop_e, q_loop_r, i_nil, i_p, i_alloc, i_box, i_store, i_copy, i_clear, i_make, i_call, i_callv, i_when, t_nil, t_p, t_call, t_alloc, t_box, t_store, kept_nil, t_copy, t_clear, t_make, q_tcont, gsel, List.cons_append, List.nil_append, evalP, evalE, Opd.ev, Env.get, Env.set, Env.pick, putE, initEnv, evalBin, intBin, evalUn, evalConv, goneAll, goneOne, retV, resAll, Res.ev, tupOf, byVals, byValsN, bv_d, bv_da, bv_fl, bv_tl, bn_d, bn_da, bn_fl, bn_tl, cx, Dn.newObj, St.place, St.push, St.spot, St.empty, cell_d, cell_da, cell_agg, cell_ref, cell_sl, cell_fl, cell_tl, cell_map, cell_fn, cell_ifc, loadAt, faddrV, partOf, extractV, mkAgg, ofD, splice, St.setObj, fillV, -List.reduceReplicate, c29, c29_k9, c29_k8, hlen, hz, c29_k7, c29_k6, c29_k5]
    have hzr : List.replicate 32 (V.d (.int .u8 0)) = (hd (List.replicate 32 0)).map V.d := by simp [hd, -List.reduceReplicate]
    refine wloopI (InvRHash2 b l) (m := 32) ⟨0, List.replicate 32 0, rfl, by omega, rfl, by simp [-List.reduceReplicate], by simp, by rw [← hzr]⟩ ?_
    rintro m e σ ⟨i, cs, rfl, hi, rfl, hcl, hct, rfl⟩
    simp -implicitDefEqProofs [body_eq, w_skip, w_ops, w_seq, w_cond, w_block, w_exit, w_ret, q_then_n, q_then_e, q_then_r, q_blk_n, q_blk_e, q_blk_r, q_ops, q_cont, q_end_n, q_end_r, q_end_e, q_loop_n, q_loop_e, q_loop_r, i_nil, i_p, i_alloc, i_box, i_store, i_copy, i_clear, i_make, i_call, i_callv, i_when, t_nil, t_p, t_call, t_alloc, t_box, t_store, kept_nil, t_copy, t_clear, t_make, q_tcont, gsel, List.cons_append, List.nil_append, evalP, evalE, Opd.ev, Env.get, Env.set, Env.pick, putE, initEnv, evalBin, intBin, evalUn, evalConv, goneAll, goneOne, retV, resAll, Res.ev, tupOf, byVals, byValsN, bv_d, bv_da, bv_fl, bv_tl, bn_d, bn_da, bn_fl, bn_tl, cx, Dn.newObj, St.place, St.push, St.spot, St.empty, cell_d, cell_da, cell_agg, cell_ref, cell_sl, cell_fl, cell_tl, cell_map, cell_fn, cell_ifc, loadAt, faddrV, partOf, extractV, mkAgg, ofD, splice, St.setObj, fillV, -List.reduceReplicate, c29_l4, c29_k3]
    have hcd : (hd cs).length = 32 := by rw [hd_len, hcl]
    by_cases hik : i < 32
    rotate_left
    · obtain rfl : i = 32 := by omega
      rw [List.take_of_length_le (by omega)] at hct
      subst hct
      have hl32 : 32 ≤ l.length := by omega
      have hnn : noNext (l, false) 32 = false := by simp [noNext]; omega
      have hh : hashS (l, false) = (l.take 32, (l.drop 32, false)) := by
        simp [hashS, nextS, hnn, -List.reduceReplicate, List.take_append, List.take_take, hl32]
      have htk0 : List.take 32 (List.map V.d (hd (List.take 32 l))) = List.map V.d (hd (List.take 32 l)) := List.take_of_length_le (by simp [hcd])
      have hlv : ∀ σ, lenV σ (.d b) = some l.length := fun σ => by rw [h.lenV σ, byteRows_len]
      obtain ⟨b2, hb2, hlb2⟩ := sliceD h (sz := 1) (byteRows_fit _) (lo := 32) (hi := l.length) hl32 (by rw [byteRows_len]; exact Nat.le_refl _)
      rw [byteRows_drop, List.take_of_length_le (by simp [byteRows_len])] at hlb2
      have hli : (32 : Int) ≤ l.length := by omega
      have hsl : ∀ σ, sliceX σ 1 (.d b) (some (I 32)) none none = some (.d b2) := fun σ => by simp [sliceX, hlv, boundV, asIdx, hb2, hli]
      simp -implicitDefEqProofs [body_eq, w_skip, w_ops, w_seq, w_cond, w_block, w_exit, w_ret, q_then_n, q_then_e, q_then_r, q_blk_n, q_blk_e, q_blk_r, q_ops, q_cont, q_end_n, q_end_r, q_end_e, q_loop_n, q_loop_e, q_loop_r, i_nil, i_p, i_alloc, i_box, i_store, i_copy, i_clear, i_make, i_call, i_callv, i_when, t_nil, t_p, t_call, t_alloc, t_box, t_store, kept_nil, t_copy, t_clear, t_make, q_tcont, gsel, List.cons_append, List.nil_append, evalP, evalE, Opd.ev, Env.get, Env.set, Env.pick, putE, initEnv, evalBin, intBin, evalUn, evalConv, goneAll, goneOne, retV, resAll, Res.ev, tupOf, byVals, byValsN, bv_d, bv_da, bv_fl, bv_tl, bn_d, bn_da, bn_fl, bn_tl, cx, Dn.newObj, St.place, St.push, St.spot, St.empty, cell_d, cell_da, cell_agg, cell_ref, cell_sl, cell_fl, cell_tl, cell_map, cell_fn, cell_ifc, loadAt, faddrV, partOf, extractV, mkAgg, ofD, splice, St.setObj, fillV, -List.reduceReplicate, c29_k0]
      refine w_drw (fun _ => .val) [1, 4] (by decide +kernel) ?_
      simp -implicitDefEqProofs [body_eq, w_skip, w_ops, w_seq, w_cond, w_block, w_exit, w_ret, q_then_n, q_then_e, q_then_r, q_blk_n, q_blk_e, q_blk_r, q_ops, q_cont, q_end_n, q_end_r, q_end_e, q_loop_n, q_loop_e, q_loop_r, i_nil, i_p, i_alloc, i_box, i_store, i_copy, i_clear, i_make, i_call, i_callv, i_when, t_nil, t_p, t_call, t_alloc, t_box, t_store, kept_nil, t_copy, t_clear, t_make, q_tcont, gsel, List.cons_append, List.nil_append, evalP, evalE, Opd.ev, Env.get, Env.set, Env.pick, putE, initEnv, evalBin, intBin, evalUn, evalConv, goneAll, goneOne, retV, resAll, Res.ev, tupOf, byVals, byValsN, bv_d, bv_da, bv_fl, bv_tl, bn_d, bn_da, bn_fl, bn_tl, cx, Dn.newObj, St.place, St.push, St.spot, St.empty, cell_d, cell_da, cell_agg, cell_ref, cell_sl, cell_fl, cell_tl, cell_map, cell_fn, cell_ifc, loadAt, faddrV, partOf, extractV, mkAgg, ofD, splice, St.setObj, fillV, room_zero, -List.reduceReplicate, hsl, ofD, hcd, hd_len, Kept, Env.get, dref, htk0, ofD_hd]
      rw [hh]
      exact ⟨_, rfl, hlb2⟩
    have hik' : (i : Int) < 32 := by omega
    have hil : i < l.length := by omega
    have hbj : l[i]? = some (l[i]) := by simp [hil]
    have hia := h.iaddr ⟨[.cells [.d b, B false], .cells [.d .nils, B false], .cells (List.replicate 32 (.d (.int .u8 0))), .cells ((hd cs).map V.d)], []⟩ (k := .i64) (sz := 1) (byteRows_at hbj) rfl
    have hi31 : i ≤ 31 := by omega
    have hch : List.take i (List.map V.d (hd cs)) ++ V.d (.int .u8 (l[i]).toNat) :: List.drop (i + 1) (List.map V.d (hd cs)) = (hd (cs.take i ++ l[i] :: cs.drop (i + 1))).map V.d := by simp [hd]
    simp -implicitDefEqProofs [body_eq, w_skip, w_ops, w_seq, w_cond, w_block, w_exit, w_ret, q_then_n, q_then_e, q_then_r, q_blk_n, q_blk_e, q_blk_r, q_ops, q_cont, q_end_n, q_end_r, q_end_e, q_loop_n, q_loop_e, q_loop_r, i_nil, i_p, i_alloc, i_box, i_store, i_copy, i_clear, i_make, i_call, i_callv, i_when, t_nil, t_p, t_call, t_alloc, t_box, t_store, kept_nil, t_copy, t_clear, t_make, q_tcont, gsel, List.cons_append, List.nil_append, evalP, evalE, Opd.ev, Env.get, Env.set, Env.pick, putE, initEnv, evalBin, intBin, evalUn, evalConv, goneAll, goneOne, retV, resAll, Res.ev, tupOf, byVals, byValsN, bv_d, bv_da, bv_fl, bv_tl, bn_d, bn_da, bn_fl, bn_tl, cx, Dn.newObj, St.place, St.push, St.spot, St.empty, cell_d, cell_da, cell_agg, cell_ref, cell_sl, cell_fl, cell_tl, cell_map, cell_fn, cell_ifc, loadAt, faddrV, partOf, extractV, mkAgg, ofD, splice, St.setObj, fillV, -List.reduceReplicate, hik', c29_k2, hia, iaddrArrV, asIdx, hcd, hcl, hi31, hch, c29_k1, wrap_i64 (n := (i : Int) + 1) (by omega) (by omega)]
    refine ⟨32 - (i + 1), by omega, i + 1, _, rfl, by omega, rfl, ?_, ?_, rfl⟩
    · simp; omega
    · rw [← List.take_append_getElem hil, ← hct, List.take_append]
      have e1 : (cs.take i).length = i := by simp; omega
      rw [e1, List.take_of_length_le (by rw [e1]; omega), show i + 1 - i = 1 by omega]
      rfl

/-! looks that keep the store -/
theorem s_LeftR {σ : St} {r : Nat} {s : Rd} {v : V} (h : InAt σ r s v) : Dn.Call Γ cx .rd 31 [.ref r 0] σ fun w _ => w = I s.1.length := by
  refine Dn.Call.body (fc := c31) rfl ?_
  have hlen := h.lv.len σ
  rw [byteRows_len] at hlen
  simp -implicitDefEqProofs [body_eq, w_skip, w_ops, w_seq, w_cond, w_block, w_exit, w_ret, q_then_n, q_then_e, q_then_r, q_blk_n, q_blk_e, q_blk_r, q_ops, q_cont, q_end_n, q_end_r, q_end_e, q_loop_n, q_loop_e, q_loop_r, i_nil, i_p, i_alloc, i_box, i_store, i_copy, i_clear, i_make, i_call, i_callv, i_when, t_nil, t_p, t_call, t_alloc, t_box, t_store, kept_nil, t_copy, t_clear, t_make, q_tcont, gsel, List.cons_append, List.nil_append, evalP, evalE, Opd.ev, Env.get, Env.set, Env.pick, putE, initEnv, evalBin, intBin, evalUn, evalConv, goneAll, goneOne, retV, resAll, Res.ev, tupOf, byVals, byValsN, bv_d, bv_da, bv_fl, bv_tl, bn_d, bn_da, bn_fl, bn_tl, cx, Dn.newObj, St.place, St.push, St.spot, St.empty, cell_d, cell_da, cell_agg, cell_ref, cell_sl, cell_fl, cell_tl, cell_map, cell_fn, cell_ifc, loadAt, faddrV, partOf, extractV, mkAgg, ofD, splice, St.setObj, fillV, c31, c31_k2, c31_k1, c31_k0, eqV, V.isNil, Opd.isC, nilCheckV, h.obj, hlen]
  exact (Fr.refl [] σ).keeps fun _ _ h => h

theorem s_EndR {σ : St} {r : Nat} {s : Rd} {v : V} (h : InAt σ r s v) : Dn.Call Γ cx .rd 32 [.ref r 0] σ fun w _ => w = endV s := by
  refine Dn.Call.body (fc := c32) rfl ?_
  have hlen := h.lv.len σ
  rw [byteRows_len] at hlen
  obtain ⟨b, bad⟩ := s
  have hob := h.obj
  simp only at hob hlen
  have hk : Keeps σ σ := (Fr.refl [] σ).keeps fun _ _ h => h
  cases bad with
  | true =>
    simp -implicitDefEqProofs [body_eq, w_skip, w_ops, w_seq, w_cond, w_block, w_exit, w_ret, q_then_n, q_then_e, q_then_r, q_blk_n, q_blk_e, q_blk_r, q_ops, q_cont, q_end_n, q_end_r, q_end_e, q_loop_n, q_loop_e, q_loop_r, i_nil, i_p, i_alloc, i_box, i_store, i_copy, i_clear, i_make, i_call, i_callv, i_when, t_nil, t_p, t_call, t_alloc, t_box, t_store, kept_nil, t_copy, t_clear, t_make, q_tcont, gsel, List.cons_append, List.nil_append, evalP, evalE, Opd.ev, Env.get, Env.set, Env.pick, putE, initEnv, evalBin, intBin, evalUn, evalConv, goneAll, goneOne, retV, resAll, Res.ev, tupOf, byVals, byValsN, bv_d, bv_da, bv_fl, bv_tl, bn_d, bn_da, bn_fl, bn_tl, cx, Dn.newObj, St.place, St.push, St.spot, St.empty, cell_d, cell_da, cell_agg, cell_ref, cell_sl, cell_fl, cell_tl, cell_map, cell_fn, cell_ifc, loadAt, faddrV, partOf, extractV, mkAgg, ofD, splice, St.setObj, fillV, c32, c32_k1, c32_k0, eqV, V.isNil, Opd.isC, nilCheckV, mkifV, hob, endV]
    exact hk
  | false =>
    by_cases h0 : 0 < b.length
    · have h0' : (0 : Int) < b.length := by omega
      simp -implicitDefEqProofs [body_eq, w_skip, w_ops, w_seq, w_cond, w_block, w_exit, w_ret, q_then_n, q_then_e, q_then_r, q_blk_n, q_blk_e, q_blk_r, q_ops, q_cont, q_end_n, q_end_r, q_end_e, q_loop_n, q_loop_e, q_loop_r, i_nil, i_p, i_alloc, i_box, i_store, i_copy, i_clear, i_make, i_call, i_callv, i_when, t_nil, t_p, t_call, t_alloc, t_box, t_store, kept_nil, t_copy, t_clear, t_make, q_tcont, gsel, List.cons_append, List.nil_append, evalP, evalE, Opd.ev, Env.get, Env.set, Env.pick, putE, initEnv, evalBin, intBin, evalUn, evalConv, goneAll, goneOne, retV, resAll, Res.ev, tupOf, byVals, byValsN, bv_d, bv_da, bv_fl, bv_tl, bn_d, bn_da, bn_fl, bn_tl, cx, Dn.newObj, St.place, St.push, St.spot, St.empty, cell_d, cell_da, cell_agg, cell_ref, cell_sl, cell_fl, cell_tl, cell_map, cell_fn, cell_ifc, loadAt, faddrV, partOf, extractV, mkAgg, ofD, splice, St.setObj, fillV, c32, c32_k1, c32_k0, eqV, V.isNil, Opd.isC, nilCheckV, mkifV, hob, hlen, endV, h0, h0']
      exact hk
    · have h0' : b.length = 0 := by omega
      simp -implicitDefEqProofs [body_eq, w_skip, w_ops, w_seq, w_cond, w_block, w_exit, w_ret, q_then_n, q_then_e, q_then_r, q_blk_n, q_blk_e, q_blk_r, q_ops, q_cont, q_end_n, q_end_r, q_end_e, q_loop_n, q_loop_e, q_loop_r, i_nil, i_p, i_alloc, i_box, i_store, i_copy, i_clear, i_make, i_call, i_callv, i_when, t_nil, t_p, t_call, t_alloc, t_box, t_store, kept_nil, t_copy, t_clear, t_make, q_tcont, gsel, List.cons_append, List.nil_append, evalP, evalE, Opd.ev, Env.get, Env.set, Env.pick, putE, initEnv, evalBin, intBin, evalUn, evalConv, goneAll, goneOne, retV, resAll, Res.ev, tupOf, byVals, byValsN, bv_d, bv_da, bv_fl, bv_tl, bn_d, bn_da, bn_fl, bn_tl, cx, Dn.newObj, St.place, St.push, St.spot, St.empty, cell_d, cell_da, cell_agg, cell_ref, cell_sl, cell_fl, cell_tl, cell_map, cell_fn, cell_ifc, loadAt, faddrV, partOf, extractV, mkAgg, ofD, splice, St.setObj, fillV, c32, c32_k1, c32_k0, eqV, V.isNil, Opd.isC, nilCheckV, mkifV, hob, hlen, endV, h0']
      exact hk

/-! errors' numbers -/
theorem s_NumErr (n : Int) (hn : n ≠ 0) : Dn.Call Γ cx .val 45 [.d (.iface 81 (.int .i64 n))] St.empty fun v _ => v = I n := by
  refine Dn.Call.body (fc := c45) rfl ?_
  simp -implicitDefEqProofs [body_eq, w_skip, w_ops, w_seq, w_cond, w_block, w_exit, w_ret, q_then_n, q_then_e, q_then_r, q_blk_n, q_blk_e, q_blk_r, q_ops, q_cont, q_end_n, q_end_r, q_end_e, q_loop_n, q_loop_e, q_loop_r, i_nil, i_p, i_alloc, i_box, i_store, i_copy, i_clear, i_make, i_call, i_callv, i_when, t_nil, t_p, t_call, t_alloc, t_box, t_store, kept_nil, t_copy, t_clear, t_make, q_tcont, gsel, List.cons_append, List.nil_append, evalP, evalE, Opd.ev, Env.get, Env.set, Env.pick, putE, initEnv, evalBin, intBin, evalUn, evalConv, goneAll, goneOne, retV, resAll, Res.ev, tupOf, byVals, byValsN, bv_d, bv_da, bv_fl, bv_tl, bn_d, bn_da, bn_fl, bn_tl, cx, Dn.newObj, St.place, St.push, St.spot, St.empty, cell_d, cell_da, cell_agg, cell_ref, cell_sl, cell_fl, cell_tl, cell_map, cell_fn, cell_ifc, loadAt, faddrV, partOf, extractV, mkAgg, ofD, splice, St.setObj, fillV, c45, c45_k4, c45_k3, c45_k2, c45_k1, c45_k0, eqV, V.isNil, Opd.isC, assertV, unwrapD, hn]

theorem s_Is (n m : Int) (hn : n ≠ 0) : Dn.Call Γ cx .val 34 [.d (.iface 81 (.int .i64 n)), I m] St.empty fun v _ => v = B (decide (n = m)) := by
  refine Dn.Call.body (fc := c34) rfl ?_
  simp -implicitDefEqProofs [body_eq, w_skip, w_ops, w_seq, w_cond, w_block, w_exit, w_ret, q_then_n, q_then_e, q_then_r, q_blk_n, q_blk_e, q_blk_r, q_ops, q_cont, q_end_n, q_end_r, q_end_e, q_loop_n, q_loop_e, q_loop_r, i_nil, i_p, i_alloc, i_box, i_store, i_copy, i_clear, i_make, i_call, i_callv, i_when, t_nil, t_p, t_call, t_alloc, t_box, t_store, kept_nil, t_copy, t_clear, t_make, q_tcont, gsel, List.cons_append, List.nil_append, evalP, evalE, Opd.ev, Env.get, Env.set, Env.pick, putE, initEnv, evalBin, intBin, evalUn, evalConv, goneAll, goneOne, retV, resAll, Res.ev, tupOf, byVals, byValsN, bv_d, bv_da, bv_fl, bv_tl, bn_d, bn_da, bn_fl, bn_tl, cx, Dn.newObj, St.place, St.push, St.spot, St.empty, cell_d, cell_da, cell_agg, cell_ref, cell_sl, cell_fl, cell_tl, cell_map, cell_fn, cell_ifc, loadAt, faddrV, partOf, extractV, mkAgg, ofD, splice, St.setObj, fillV, c34, c34_k0]
  refine use_fn rfl (s_NumErr n hn) rfl ?_
  simp -implicitDefEqProofs [body_eq, w_skip, w_ops, w_seq, w_cond, w_block, w_exit, w_ret, q_then_n, q_then_e, q_then_r, q_blk_n, q_blk_e, q_blk_r, q_ops, q_cont, q_end_n, q_end_r, q_end_e, q_loop_n, q_loop_e, q_loop_r, i_nil, i_p, i_alloc, i_box, i_store, i_copy, i_clear, i_make, i_call, i_callv, i_when, t_nil, t_p, t_call, t_alloc, t_box, t_store, kept_nil, t_copy, t_clear, t_make, q_tcont, gsel, List.cons_append, List.nil_append, evalP, evalE, Opd.ev, Env.get, Env.set, Env.pick, putE, initEnv, evalBin, intBin, evalUn, evalConv, goneAll, goneOne, retV, resAll, Res.ev, tupOf, byVals, byValsN, bv_d, bv_da, bv_fl, bv_tl, bn_d, bn_da, bn_fl, bn_tl, cx, Dn.newObj, St.place, St.push, St.spot, St.empty, cell_d, cell_da, cell_agg, cell_ref, cell_sl, cell_fl, cell_tl, cell_map, cell_fn, cell_ifc, loadAt, faddrV, partOf, extractV, mkAgg, ofD, splice, St.setObj, fillV]

end Go.Proofs.Ytjkedjjahjlmfaa.T

namespace Go.Proofs.Ytjkedjjahjlmfaa.T
open Go.Dn
set_option linter.unusedSimpArgs false
set_option linter.unusedVariables false

/-- The readers stand alike. -/
structure Both (σ : St) (r p : Nat) (s : Rd) : Prop where
  in_ : ∃ v, InAt σ r s v
  ref : ∃ b, σ.objs[p]? = some (.cells [.d b, B s.2]) ∧ LV (.d b) (byteRows s.1)
  ne : r ≠ p

theorem Both.fr {σ σ' : St} {r p : Nat} {s : Rd} (h : Both σ r p s) (hf : Fr [] σ σ') : Both σ' r p s := by
  obtain ⟨⟨v, hv⟩, ⟨b, hb, hlv⟩, hn⟩ := h
  exact ⟨⟨v, hf.get hv.obj (by simp), hv.lv, hv.tl⟩, ⟨b, hf.get hb (by simp), hlv⟩, hn⟩

abbrev tail13 (x1 x2 x3 x4 x5 x6 x7 x8 x9 x10 x11 x12 x13 : V) : Env := [(118, x1), (119, x2), (120, x3), (121, x4), (122, x5), (123, x6), (126, x7), (127, x8), (128, x9), (129, x10), (130, x11), (131, x12), (140, x13)]

theorem endV_eq (s : Rd) : eqV .iface [] (endV s) (.d .nili) false true = some (!s.2 && decide (s.1.length = 0)) := by
  unfold endV
  split
  · rename_i h
    have : (!s.2 && decide (s.1.length = 0)) = false := by
      simp at h ⊢
      intro h1 h2
      rcases h with h | h
      · rw [h] at h1; cases h1
      · exact absurd h2 (by intro e; simp [e] at h)
    rw [this]
    simp [eqV, V.isNil]
  · rename_i h
    have : (!s.2 && decide (s.1.length = 0)) = true := by
      simp at h ⊢
      exact h
    rw [this]
    simp [eqV, V.isNil]

theorem reads_look {σ : St} {r p : Nat} {s : Rd} (h : Both σ r p s) {Q : PostC} {x len i : V} {x1 x2 x3 x4 x5 x6 x7 x8 x9 x10 x11 x12 x13 : V}
    (hQ : ∀ x1 x2 x3 x4 x5 x6 x7 x8 x9 x10 x11 x12, Q .normal [(6, .ref r 0), (7, .ref p 0), (49, x), (50, len), (51, i), (118, x1), (119, x2), (120, x3), (121, x4), (122, x5), (123, x6), (126, x7), (127, x8), (128, x9), (129, x10), (130, x11), (131, x12), (132, B false), (140, x13)] σ) :
    wcode (Dn.Call Γ cx) cx c5_k3 ([(6, .ref r 0), (7, .ref p 0), (11, B true), (49, x), (50, len), (51, i)] ++ tail13 x1 x2 x3 x4 x5 x6 x7 x8 x9 x10 x11 x12 x13) σ Q := by
  obtain ⟨⟨v, hv⟩, ⟨b, hb, hlv⟩, hn⟩ := h
  have hr : r < σ.objs.length := (List.getElem?_eq_some_iff.1 hv.obj).1
  have hlen : ∀ σ, lenT σ .slice (.d b) = some s.1.length := fun σ => by rw [hlv.len σ, byteRows_len]
  simp only [c5_k3]
  simp -implicitDefEqProofs [body_eq, w_skip, w_ops, w_seq, w_cond, w_block, w_exit, w_ret, q_then_n, q_then_e, q_then_r, q_blk_n, q_blk_e, q_blk_r, q_ops, q_cont, q_end_n, q_end_r, q_end_e, q_loop_n, q_loop_e, q_loop_r, i_nil, i_p, i_alloc, i_box, i_store, i_copy, i_clear, i_make, i_call, i_callv, i_when, t_nil, t_p, t_call, t_alloc, t_box, t_store, kept_nil, t_copy, t_clear, t_make, q_tcont, gsel, List.cons_append, List.nil_append, evalP, evalE, Opd.ev, Env.get, Env.set, Env.pick, putE, initEnv, evalBin, intBin, evalUn, evalConv, goneAll, goneOne, retV, resAll, Res.ev, tupOf, byVals, byValsN, bv_d, bv_da, bv_fl, bv_tl, bn_d, bn_da, bn_fl, bn_tl, cx, Dn.newObj, St.place, St.push, St.spot, St.empty, cell_d, cell_da, cell_agg, cell_ref, cell_sl, cell_fl, cell_tl, cell_map, cell_fn, cell_ifc, loadAt, faddrV, partOf, extractV, mkAgg, ofD, splice, St.setObj, fillV]
  refine w_drw (fun f => if f = 33 then .val else .rd) [] (by decide +kernel) ?_
  simp -implicitDefEqProofs [body_eq, w_skip, w_ops, w_seq, w_cond, w_block, w_exit, w_ret, q_then_n, q_then_e, q_then_r, q_blk_n, q_blk_e, q_blk_r, q_ops, q_cont, q_end_n, q_end_r, q_end_e, q_loop_n, q_loop_e, q_loop_r, i_nil, i_p, i_alloc, i_box, i_store, i_copy, i_clear, i_make, i_call, i_callv, i_when, t_nil, t_p, t_call, t_alloc, t_box, t_store, kept_nil, t_copy, t_clear, t_make, q_tcont, gsel, List.cons_append, List.nil_append, evalP, evalE, Opd.ev, Env.get, Env.set, Env.pick, putE, initEnv, evalBin, intBin, evalUn, evalConv, goneAll, goneOne, retV, resAll, Res.ev, tupOf, byVals, byValsN, bv_d, bv_da, bv_fl, bv_tl, bn_d, bn_da, bn_fl, bn_tl, cx, Dn.newObj, St.place, St.push, St.spot, St.empty, cell_d, cell_da, cell_agg, cell_ref, cell_sl, cell_fl, cell_tl, cell_map, cell_fn, cell_ifc, loadAt, faddrV, partOf, extractV, mkAgg, ofD, splice, St.setObj, fillV, room_zero]
  refine use_rdN rfl (fun σ1 ha => s_LeftR (s := s) ⟨(ha.1 r hr).trans hv.obj, hv.lv, hv.tl⟩) ?_
  simp -implicitDefEqProofs [body_eq, w_skip, w_ops, w_seq, w_cond, w_block, w_exit, w_ret, q_then_n, q_then_e, q_then_r, q_blk_n, q_blk_e, q_blk_r, q_ops, q_cont, q_end_n, q_end_r, q_end_e, q_loop_n, q_loop_e, q_loop_r, i_nil, i_p, i_alloc, i_box, i_store, i_copy, i_clear, i_make, i_call, i_callv, i_when, t_nil, t_p, t_call, t_alloc, t_box, t_store, kept_nil, t_copy, t_clear, t_make, q_tcont, gsel, List.cons_append, List.nil_append, evalP, evalE, Opd.ev, Env.get, Env.set, Env.pick, putE, initEnv, evalBin, intBin, evalUn, evalConv, goneAll, goneOne, retV, resAll, Res.ev, tupOf, byVals, byValsN, bv_d, bv_da, bv_fl, bv_tl, bn_d, bn_da, bn_fl, bn_tl, cx, Dn.newObj, St.place, St.push, St.spot, St.empty, cell_d, cell_da, cell_agg, cell_ref, cell_sl, cell_fl, cell_tl, cell_map, cell_fn, cell_ifc, loadAt, faddrV, partOf, extractV, mkAgg, ofD, splice, St.setObj, fillV, room_zero, hb, hlen]
  refine use_rdN rfl (fun σ1 ha => s_EndR (s := s) ⟨(ha.1 r hr).trans hv.obj, hv.lv, hv.tl⟩) ?_
  simp -implicitDefEqProofs [body_eq, w_skip, w_ops, w_seq, w_cond, w_block, w_exit, w_ret, q_then_n, q_then_e, q_then_r, q_blk_n, q_blk_e, q_blk_r, q_ops, q_cont, q_end_n, q_end_r, q_end_e, q_loop_n, q_loop_e, q_loop_r, i_nil, i_p, i_alloc, i_box, i_store, i_copy, i_clear, i_make, i_call, i_callv, i_when, t_nil, t_p, t_call, t_alloc, t_box, t_store, kept_nil, t_copy, t_clear, t_make, q_tcont, gsel, List.cons_append, List.nil_append, evalP, evalE, Opd.ev, Env.get, Env.set, Env.pick, putE, initEnv, evalBin, intBin, evalUn, evalConv, goneAll, goneOne, retV, resAll, Res.ev, tupOf, byVals, byValsN, bv_d, bv_da, bv_fl, bv_tl, bn_d, bn_da, bn_fl, bn_tl, cx, Dn.newObj, St.place, St.push, St.spot, St.empty, cell_d, cell_da, cell_agg, cell_ref, cell_sl, cell_fl, cell_tl, cell_map, cell_fn, cell_ifc, loadAt, faddrV, partOf, extractV, mkAgg, ofD, splice, St.setObj, fillV, room_zero, hb, ofD, Opd.isC, endV_eq]
  refine use_fnN rfl rfl (s_rEnd hlv) rfl ?_
  simp -implicitDefEqProofs [body_eq, w_skip, w_ops, w_seq, w_cond, w_block, w_exit, w_ret, q_then_n, q_then_e, q_then_r, q_blk_n, q_blk_e, q_blk_r, q_ops, q_cont, q_end_n, q_end_r, q_end_e, q_loop_n, q_loop_e, q_loop_r, i_nil, i_p, i_alloc, i_box, i_store, i_copy, i_clear, i_make, i_call, i_callv, i_when, t_nil, t_p, t_call, t_alloc, t_box, t_store, kept_nil, t_copy, t_clear, t_make, q_tcont, gsel, List.cons_append, List.nil_append, evalP, evalE, Opd.ev, Env.get, Env.set, Env.pick, putE, initEnv, evalBin, intBin, evalUn, evalConv, goneAll, goneOne, retV, resAll, Res.ev, tupOf, byVals, byValsN, bv_d, bv_da, bv_fl, bv_tl, bn_d, bn_da, bn_fl, bn_tl, cx, Dn.newObj, St.place, St.push, St.spot, St.empty, cell_d, cell_da, cell_agg, cell_ref, cell_sl, cell_fl, cell_tl, cell_map, cell_fn, cell_ifc, loadAt, faddrV, partOf, extractV, mkAgg, ofD, splice, St.setObj, fillV, room_zero]
  simp -implicitDefEqProofs [body_eq, w_skip, w_ops, w_seq, w_cond, w_block, w_exit, w_ret, q_then_n, q_then_e, q_then_r, q_blk_n, q_blk_e, q_blk_r, q_ops, q_cont, q_end_n, q_end_r, q_end_e, q_loop_n, q_loop_e, q_loop_r, i_nil, i_p, i_alloc, i_box, i_store, i_copy, i_clear, i_make, i_call, i_callv, i_when, t_nil, t_p, t_call, t_alloc, t_box, t_store, kept_nil, t_copy, t_clear, t_make, q_tcont, gsel, List.cons_append, List.nil_append, evalP, evalE, Opd.ev, Env.get, Env.set, Env.pick, putE, initEnv, evalBin, intBin, evalUn, evalConv, goneAll, goneOne, retV, resAll, Res.ev, tupOf, byVals, byValsN, bv_d, bv_da, bv_fl, bv_tl, bn_d, bn_da, bn_fl, bn_tl, cx, Dn.newObj, St.place, St.push, St.spot, St.empty, cell_d, cell_da, cell_agg, cell_ref, cell_sl, cell_fl, cell_tl, cell_map, cell_fn, cell_ifc, loadAt, faddrV, partOf, extractV, mkAgg, ofD, splice, St.setObj, fillV, eqV, c5_k2]
  exact hQ _ _ _ _ _ _ _ _ _ _ _ _

theorem Both.step {σ σ' σ1 : St} {r p : Nat} {s s' : Rd} {b : D} (h : Both σ r p s) (hb : LV (.d b) (byteRows s'.1)) (hg : Got σ1 r s' σ') (h1 : Fr [] σ σ1) :
    Both ⟨σ'.objs.set p (.cells [.d b, B s'.2]), σ'.toks⟩ r p s' := by
  obtain ⟨⟨v, hv⟩, ⟨b0, hb0, _⟩, hn⟩ := h
  obtain ⟨⟨v', hv'⟩, hfr, _⟩ := hg
  have hp : p < σ'.objs.length := by
    have := (List.getElem?_eq_some_iff.1 hb0).1
    have := h1.len
    have := hfr.len
    omega
  refine ⟨⟨v', ?_, hv'.lv, hv'.tl⟩, ⟨b, List.getElem?_set_self hp, hb⟩, hn⟩
  simp only
  rw [List.getElem?_set_ne (fun e => hn e.symm)]
  exact hv'.obj

/-- What a thing reads: the reader then. -/
def TG.got (t : TG) (s : Rd) : Rd := if t.kind = 0 then (numS s t.size).2 else if t.kind = 1 then (countS s t.size).2 else if t.kind = 2 then (textS s t.size).2 else (hashS s).2

theorem fits_hd : ∀ (h : List UInt8), fitsAll (List.replicate h.length (.int .u8)) (hd h) = true
  | [] => rfl
  | b :: h => by
    have ih := fits_hd h
    have hb := b.toNat_lt
    have e0 : (IntKind.u8.min : Int) = 0 := rfl
    have e1 : (IntKind.u8.max : Int) = 255 := rfl
    simp only [List.length_cons, List.replicate_succ, hd, List.map_cons, fitsAll, Lf.fits, Bool.and_eq_true, beq_self_eq_true, true_and, decide_eq_true_eq] at ih ⊢
    exact ⟨⟨by omega, by omega⟩, ih⟩

theorem reads_step {σ : St} {r p q : Nat} {s : Rd} {t : TG} (h : Both σ r p s) (hl : s.1.length ≤ 1099511627776) (hq : σ.objs[q]? = some (.cells t.cells)) (hqr : q ≠ r) (hqp : q ≠ p) (ht : t.Ok) {Q : PostC} {x len i : V} {x1 x2 x3 x4 x5 x6 x7 x8 x9 x10 x11 x12 x13 : V}
    (hQ : ∀ σ', Both σ' r p (t.got s) → ∀ x1 x2 x3 x4 x5 x6 x7 x8 x9 x10 x11 x12, Q .normal [(6, .ref r 0), (7, .ref p 0), (49, x), (50, len), (51, i), (118, x1), (119, x2), (120, x3), (121, x4), (122, x5), (123, x6), (126, x7), (127, x8), (128, x9), (129, x10), (130, x11), (131, x12), (132, B false), (140, x13)] σ') :
    wcode (Dn.Call Γ cx) cx c5_k20 ([(6, .ref r 0), (7, .ref p 0), (10, .ref q 0), (49, x), (50, len), (51, i)] ++ tail13 x1 x2 x3 x4 x5 x6 x7 x8 x9 x10 x11 x12 x13) σ Q := by
  obtain ⟨⟨v, hv⟩, ⟨b, hb, hlv⟩, hn⟩ := id h
  have hrl : r < σ.objs.length := (List.getElem?_eq_some_iff.1 hv.obj).1
  have hpl : p < σ.objs.length := (List.getElem?_eq_some_iff.1 hb).1
  have hql : q < σ.objs.length := (List.getElem?_eq_some_iff.1 hq).1
  simp only [c5_k20]
  simp -implicitDefEqProofs [body_eq, w_skip, w_ops, w_seq, w_cond, w_block, w_exit, w_ret, q_then_n, q_then_e, q_then_r, q_blk_n, q_blk_e, q_blk_r, q_ops, q_cont, q_end_n, q_end_r, q_end_e, q_loop_n, q_loop_e, q_loop_r, i_nil, i_p, i_alloc, i_box, i_store, i_copy, i_clear, i_make, i_call, i_callv, i_when, t_nil, t_p, t_call, t_alloc, t_box, t_store, kept_nil, t_copy, t_clear, t_make, q_tcont, gsel, List.cons_append, List.nil_append, evalP, evalE, Opd.ev, Env.get, Env.set, Env.pick, putE, initEnv, evalBin, intBin, evalUn, evalConv, goneAll, goneOne, retV, resAll, Res.ev, tupOf, byVals, byValsN, bv_d, bv_da, bv_fl, bv_tl, bn_d, bn_da, bn_fl, bn_tl, cx, Dn.newObj, St.place, St.push, St.spot, St.empty, cell_d, cell_da, cell_agg, cell_ref, cell_sl, cell_fl, cell_tl, cell_map, cell_fn, cell_ifc, loadAt, faddrV, partOf, extractV, mkAgg, ofD, splice, St.setObj, fillV, c5_k19, hq, t.c0, c5_k18, c5_k17]
  by_cases h0 : t.kind = 0
  · have hgot : t.got s = (numS s t.size).2 := by simp [TG.got, h0]
    rw [hgot] at hQ
    simp -implicitDefEqProofs [body_eq, w_skip, w_ops, w_seq, w_cond, w_block, w_exit, w_ret, q_then_n, q_then_e, q_then_r, q_blk_n, q_blk_e, q_blk_r, q_ops, q_cont, q_end_n, q_end_r, q_end_e, q_loop_n, q_loop_e, q_loop_r, i_nil, i_p, i_alloc, i_box, i_store, i_copy, i_clear, i_make, i_call, i_callv, i_when, t_nil, t_p, t_call, t_alloc, t_box, t_store, kept_nil, t_copy, t_clear, t_make, q_tcont, gsel, List.cons_append, List.nil_append, evalP, evalE, Opd.ev, Env.get, Env.set, Env.pick, putE, initEnv, evalBin, intBin, evalUn, evalConv, goneAll, goneOne, retV, resAll, Res.ev, tupOf, byVals, byValsN, bv_d, bv_da, bv_fl, bv_tl, bn_d, bn_da, bn_fl, bn_tl, cx, Dn.newObj, St.place, St.push, St.spot, St.empty, cell_d, cell_da, cell_agg, cell_ref, cell_sl, cell_fl, cell_tl, cell_map, cell_fn, cell_ifc, loadAt, faddrV, partOf, extractV, mkAgg, ofD, splice, St.setObj, fillV, h0, c5_k16, c5_k5, hb, hq, t.c1, ofD]
    refine use_val (ds := [.da [b, .bool s.2], I t.size]) rfl (s_ReadNum hlv hl t.size) ?_
    rintro v1 s1 ⟨b1, rfl, hb1⟩
    refine ⟨by simp [V.pure, V.flatv], fun h => by simp [V.borrows] at h, ?_⟩
    simp -implicitDefEqProofs [body_eq, w_skip, w_ops, w_seq, w_cond, w_block, w_exit, w_ret, q_then_n, q_then_e, q_then_r, q_blk_n, q_blk_e, q_blk_r, q_ops, q_cont, q_end_n, q_end_r, q_end_e, q_loop_n, q_loop_e, q_loop_r, i_nil, i_p, i_alloc, i_box, i_store, i_copy, i_clear, i_make, i_call, i_callv, i_when, t_nil, t_p, t_call, t_alloc, t_box, t_store, kept_nil, t_copy, t_clear, t_make, q_tcont, gsel, List.cons_append, List.nil_append, evalP, evalE, Opd.ev, Env.get, Env.set, Env.pick, putE, initEnv, evalBin, intBin, evalUn, evalConv, goneAll, goneOne, retV, resAll, Res.ev, tupOf, byVals, byValsN, bv_d, bv_da, bv_fl, bv_tl, bn_d, bn_da, bn_fl, bn_tl, cx, Dn.newObj, St.place, St.push, St.spot, St.empty, cell_d, cell_da, cell_agg, cell_ref, cell_sl, cell_fl, cell_tl, cell_map, cell_fn, cell_ifc, loadAt, faddrV, partOf, extractV, mkAgg, ofD, splice, St.setObj, fillV]
    obtain ⟨σ1, hσ1⟩ : ∃ s1 : St, (⟨σ.objs ++ [.cells [.d b1, .d (.bool (numS s t.size).2.2)]], σ.toks⟩ : St) = s1 := ⟨_, rfl⟩
    rw [hσ1]
    have f1 : Fr [] σ σ1 := ⟨by rw [← hσ1]; simp, fun q _ hq => by rw [← hσ1]; simp [List.getElem?_append_left hq]⟩
    have g1 : σ1.objs[σ.objs.length]? = some (.cells [.d b1, B (numS s t.size).2.2]) := by rw [← hσ1]; simp
    have hq1 := f1.get hq (by simp)
    have hv1 : InAt σ1 r s v := ⟨f1.get hv.obj (by simp), hv.lv, hv.tl⟩
    refine w_drw (fun _ => .raw) [12, 10] (by decide +kernel) ?_
    simp -implicitDefEqProofs [body_eq, w_skip, w_ops, w_seq, w_cond, w_block, w_exit, w_ret, q_then_n, q_then_e, q_then_r, q_blk_n, q_blk_e, q_blk_r, q_ops, q_cont, q_end_n, q_end_r, q_end_e, q_loop_n, q_loop_e, q_loop_r, i_nil, i_p, i_alloc, i_box, i_store, i_copy, i_clear, i_make, i_call, i_callv, i_when, t_nil, t_p, t_call, t_alloc, t_box, t_store, kept_nil, t_copy, t_clear, t_make, q_tcont, gsel, List.cons_append, List.nil_append, evalP, evalE, Opd.ev, Env.get, Env.set, Env.pick, putE, initEnv, evalBin, intBin, evalUn, evalConv, goneAll, goneOne, retV, resAll, Res.ev, tupOf, byVals, byValsN, bv_d, bv_da, bv_fl, bv_tl, bn_d, bn_da, bn_fl, bn_tl, cx, Dn.newObj, St.place, St.push, St.spot, St.empty, cell_d, cell_da, cell_agg, cell_ref, cell_sl, cell_fl, cell_tl, cell_map, cell_fn, cell_ifc, loadAt, faddrV, partOf, extractV, mkAgg, ofD, splice, St.setObj, fillV, room_zero, g1, hq1, t.c1, ofD]
    refine use_rawN rfl (s_gNum hv1 t.size hl) (by obtain ⟨σ', hσ'⟩ := Got.ex hv1 (numS s t.size).2; exact ⟨_, σ', rfl, hσ'⟩) fun w σ2 ⟨hw, hg⟩ => ⟨?_, ?_⟩
    · intro t' ht' q' hq'
      have hne : q' ≠ r := by
        simp at ht'
        rcases ht' with rfl | rfl <;> simp [Env.get, dref] at hq' <;> omega
      have hlt : q' < σ1.objs.length := by
        simp at ht'
        have := (List.getElem?_eq_some_iff.1 g1).1
        have := f1.len
        rcases ht' with rfl | rfl <;> simp [Env.get, dref] at hq' <;> omega
      exact hg.fr.at_ q' (by simpa using hne) hlt
    subst hw
    have hp2 : σ2.objs[p]? = some (.cells [.d b, B s.2]) := hg.fr.get (f1.get hb (by simp)) (by simpa using fun e => hn e.symm)
    simp -implicitDefEqProofs [body_eq, w_skip, w_ops, w_seq, w_cond, w_block, w_exit, w_ret, q_then_n, q_then_e, q_then_r, q_blk_n, q_blk_e, q_blk_r, q_ops, q_cont, q_end_n, q_end_r, q_end_e, q_loop_n, q_loop_e, q_loop_r, i_nil, i_p, i_alloc, i_box, i_store, i_copy, i_clear, i_make, i_call, i_callv, i_when, t_nil, t_p, t_call, t_alloc, t_box, t_store, kept_nil, t_copy, t_clear, t_make, q_tcont, gsel, List.cons_append, List.nil_append, evalP, evalE, Opd.ev, Env.get, Env.set, Env.pick, putE, initEnv, evalBin, intBin, evalUn, evalConv, goneAll, goneOne, retV, resAll, Res.ev, tupOf, byVals, byValsN, bv_d, bv_da, bv_fl, bv_tl, bn_d, bn_da, bn_fl, bn_tl, cx, Dn.newObj, St.place, St.push, St.spot, St.empty, cell_d, cell_da, cell_agg, cell_ref, cell_sl, cell_fl, cell_tl, cell_map, cell_fn, cell_ifc, loadAt, faddrV, partOf, extractV, mkAgg, ofD, splice, St.setObj, fillV, room_zero, hp2, strBin_eq]
    exact ⟨Kept.set (by simp [Env.get, dref]; omega), reads_look (h.step hb1 hg f1) (hQ _ (h.step hb1 hg f1))⟩
  by_cases h1 : t.kind = 1
  · have hgot : t.got s = (countS s t.size).2 := by simp [TG.got, h0, h1]
    rw [hgot] at hQ
    simp -implicitDefEqProofs [body_eq, w_skip, w_ops, w_seq, w_cond, w_block, w_exit, w_ret, q_then_n, q_then_e, q_then_r, q_blk_n, q_blk_e, q_blk_r, q_ops, q_cont, q_end_n, q_end_r, q_end_e, q_loop_n, q_loop_e, q_loop_r, i_nil, i_p, i_alloc, i_box, i_store, i_copy, i_clear, i_make, i_call, i_callv, i_when, t_nil, t_p, t_call, t_alloc, t_box, t_store, kept_nil, t_copy, t_clear, t_make, q_tcont, gsel, List.cons_append, List.nil_append, evalP, evalE, Opd.ev, Env.get, Env.set, Env.pick, putE, initEnv, evalBin, intBin, evalUn, evalConv, goneAll, goneOne, retV, resAll, Res.ev, tupOf, byVals, byValsN, bv_d, bv_da, bv_fl, bv_tl, bn_d, bn_da, bn_fl, bn_tl, cx, Dn.newObj, St.place, St.push, St.spot, St.empty, cell_d, cell_da, cell_agg, cell_ref, cell_sl, cell_fl, cell_tl, cell_map, cell_fn, cell_ifc, loadAt, faddrV, partOf, extractV, mkAgg, ofD, splice, St.setObj, fillV, h0, h1, c5_k16, c5_k15, c5_k14, c5_k7, hb, hq, t.c1, ofD]
    refine use_val (ds := [.da [b, .bool s.2], I t.size]) rfl (s_ReadCount hlv hl t.size ht.z.2) ?_
    rintro v1 s1 ⟨b1, rfl, hb1⟩
    refine ⟨by simp [V.pure, V.flatv], fun h => by simp [V.borrows] at h, ?_⟩
    simp -implicitDefEqProofs [body_eq, w_skip, w_ops, w_seq, w_cond, w_block, w_exit, w_ret, q_then_n, q_then_e, q_then_r, q_blk_n, q_blk_e, q_blk_r, q_ops, q_cont, q_end_n, q_end_r, q_end_e, q_loop_n, q_loop_e, q_loop_r, i_nil, i_p, i_alloc, i_box, i_store, i_copy, i_clear, i_make, i_call, i_callv, i_when, t_nil, t_p, t_call, t_alloc, t_box, t_store, kept_nil, t_copy, t_clear, t_make, q_tcont, gsel, List.cons_append, List.nil_append, evalP, evalE, Opd.ev, Env.get, Env.set, Env.pick, putE, initEnv, evalBin, intBin, evalUn, evalConv, goneAll, goneOne, retV, resAll, Res.ev, tupOf, byVals, byValsN, bv_d, bv_da, bv_fl, bv_tl, bn_d, bn_da, bn_fl, bn_tl, cx, Dn.newObj, St.place, St.push, St.spot, St.empty, cell_d, cell_da, cell_agg, cell_ref, cell_sl, cell_fl, cell_tl, cell_map, cell_fn, cell_ifc, loadAt, faddrV, partOf, extractV, mkAgg, ofD, splice, St.setObj, fillV]
    obtain ⟨σ1, hσ1⟩ : ∃ s1 : St, (⟨σ.objs ++ [.cells [.d b1, .d (.bool (countS s t.size).2.2)]], σ.toks⟩ : St) = s1 := ⟨_, rfl⟩
    rw [hσ1]
    have f1 : Fr [] σ σ1 := ⟨by rw [← hσ1]; simp, fun q _ hq => by rw [← hσ1]; simp [List.getElem?_append_left hq]⟩
    have g1 : σ1.objs[σ.objs.length]? = some (.cells [.d b1, B (countS s t.size).2.2]) := by rw [← hσ1]; simp
    have hq1 := f1.get hq (by simp)
    have hv1 : InAt σ1 r s v := ⟨f1.get hv.obj (by simp), hv.lv, hv.tl⟩
    refine w_drw (fun _ => .raw) [14, 10] (by decide +kernel) ?_
    simp -implicitDefEqProofs [body_eq, w_skip, w_ops, w_seq, w_cond, w_block, w_exit, w_ret, q_then_n, q_then_e, q_then_r, q_blk_n, q_blk_e, q_blk_r, q_ops, q_cont, q_end_n, q_end_r, q_end_e, q_loop_n, q_loop_e, q_loop_r, i_nil, i_p, i_alloc, i_box, i_store, i_copy, i_clear, i_make, i_call, i_callv, i_when, t_nil, t_p, t_call, t_alloc, t_box, t_store, kept_nil, t_copy, t_clear, t_make, q_tcont, gsel, List.cons_append, List.nil_append, evalP, evalE, Opd.ev, Env.get, Env.set, Env.pick, putE, initEnv, evalBin, intBin, evalUn, evalConv, goneAll, goneOne, retV, resAll, Res.ev, tupOf, byVals, byValsN, bv_d, bv_da, bv_fl, bv_tl, bn_d, bn_da, bn_fl, bn_tl, cx, Dn.newObj, St.place, St.push, St.spot, St.empty, cell_d, cell_da, cell_agg, cell_ref, cell_sl, cell_fl, cell_tl, cell_map, cell_fn, cell_ifc, loadAt, faddrV, partOf, extractV, mkAgg, ofD, splice, St.setObj, fillV, room_zero, g1, hq1, t.c1, ofD]
    refine use_rawN rfl (s_gCount hv1 t.size ht.z.2 hl) (by obtain ⟨σ', hσ'⟩ := Got.ex hv1 (countS s t.size).2; exact ⟨_, σ', rfl, hσ'⟩) fun w σ2 ⟨hw, hg⟩ => ⟨?_, ?_⟩
    · intro t' ht' q' hq'
      have hne : q' ≠ r := by
        simp at ht'
        rcases ht' with rfl | rfl <;> simp [Env.get, dref] at hq' <;> omega
      have hlt : q' < σ1.objs.length := by
        simp at ht'
        have := (List.getElem?_eq_some_iff.1 g1).1
        have := f1.len
        rcases ht' with rfl | rfl <;> simp [Env.get, dref] at hq' <;> omega
      exact hg.fr.at_ q' (by simpa using hne) hlt
    subst hw
    have hp2 : σ2.objs[p]? = some (.cells [.d b, B s.2]) := hg.fr.get (f1.get hb (by simp)) (by simpa using fun e => hn e.symm)
    simp -implicitDefEqProofs [body_eq, w_skip, w_ops, w_seq, w_cond, w_block, w_exit, w_ret, q_then_n, q_then_e, q_then_r, q_blk_n, q_blk_e, q_blk_r, q_ops, q_cont, q_end_n, q_end_r, q_end_e, q_loop_n, q_loop_e, q_loop_r, i_nil, i_p, i_alloc, i_box, i_store, i_copy, i_clear, i_make, i_call, i_callv, i_when, t_nil, t_p, t_call, t_alloc, t_box, t_store, kept_nil, t_copy, t_clear, t_make, q_tcont, gsel, List.cons_append, List.nil_append, evalP, evalE, Opd.ev, Env.get, Env.set, Env.pick, putE, initEnv, evalBin, intBin, evalUn, evalConv, goneAll, goneOne, retV, resAll, Res.ev, tupOf, byVals, byValsN, bv_d, bv_da, bv_fl, bv_tl, bn_d, bn_da, bn_fl, bn_tl, cx, Dn.newObj, St.place, St.push, St.spot, St.empty, cell_d, cell_da, cell_agg, cell_ref, cell_sl, cell_fl, cell_tl, cell_map, cell_fn, cell_ifc, loadAt, faddrV, partOf, extractV, mkAgg, ofD, splice, St.setObj, fillV, room_zero, hp2, strBin_eq]
    exact ⟨Kept.set (by simp [Env.get, dref]; omega), reads_look (h.step hb1 hg f1) (hQ _ (h.step hb1 hg f1))⟩
  by_cases h2 : t.kind = 2
  · have hgot : t.got s = (textS s t.size).2 := by simp [TG.got, h0, h1, h2]
    rw [hgot] at hQ
    simp -implicitDefEqProofs [body_eq, w_skip, w_ops, w_seq, w_cond, w_block, w_exit, w_ret, q_then_n, q_then_e, q_then_r, q_blk_n, q_blk_e, q_blk_r, q_ops, q_cont, q_end_n, q_end_r, q_end_e, q_loop_n, q_loop_e, q_loop_r, i_nil, i_p, i_alloc, i_box, i_store, i_copy, i_clear, i_make, i_call, i_callv, i_when, t_nil, t_p, t_call, t_alloc, t_box, t_store, kept_nil, t_copy, t_clear, t_make, q_tcont, gsel, List.cons_append, List.nil_append, evalP, evalE, Opd.ev, Env.get, Env.set, Env.pick, putE, initEnv, evalBin, intBin, evalUn, evalConv, goneAll, goneOne, retV, resAll, Res.ev, tupOf, byVals, byValsN, bv_d, bv_da, bv_fl, bv_tl, bn_d, bn_da, bn_fl, bn_tl, cx, Dn.newObj, St.place, St.push, St.spot, St.empty, cell_d, cell_da, cell_agg, cell_ref, cell_sl, cell_fl, cell_tl, cell_map, cell_fn, cell_ifc, loadAt, faddrV, partOf, extractV, mkAgg, ofD, splice, St.setObj, fillV, h0, h1, h2, c5_k16, c5_k15, c5_k14, c5_k13, c5_k12, c5_k9, hb, hq, t.c1, ofD]
    refine use_val (ds := [.da [b, .bool s.2], I t.size]) rfl (s_ReadText hlv hl t.size ht.z.2) ?_
    rintro v1 s1 ⟨b1, rfl, hb1⟩
    refine ⟨by simp [V.pure, V.flatv], fun h => by simp [V.borrows] at h, ?_⟩
    simp -implicitDefEqProofs [body_eq, w_skip, w_ops, w_seq, w_cond, w_block, w_exit, w_ret, q_then_n, q_then_e, q_then_r, q_blk_n, q_blk_e, q_blk_r, q_ops, q_cont, q_end_n, q_end_r, q_end_e, q_loop_n, q_loop_e, q_loop_r, i_nil, i_p, i_alloc, i_box, i_store, i_copy, i_clear, i_make, i_call, i_callv, i_when, t_nil, t_p, t_call, t_alloc, t_box, t_store, kept_nil, t_copy, t_clear, t_make, q_tcont, gsel, List.cons_append, List.nil_append, evalP, evalE, Opd.ev, Env.get, Env.set, Env.pick, putE, initEnv, evalBin, intBin, evalUn, evalConv, goneAll, goneOne, retV, resAll, Res.ev, tupOf, byVals, byValsN, bv_d, bv_da, bv_fl, bv_tl, bn_d, bn_da, bn_fl, bn_tl, cx, Dn.newObj, St.place, St.push, St.spot, St.empty, cell_d, cell_da, cell_agg, cell_ref, cell_sl, cell_fl, cell_tl, cell_map, cell_fn, cell_ifc, loadAt, faddrV, partOf, extractV, mkAgg, ofD, splice, St.setObj, fillV]
    obtain ⟨σ1, hσ1⟩ : ∃ s1 : St, (⟨σ.objs ++ [.cells [.d b1, .d (.bool (textS s t.size).2.2)]], σ.toks⟩ : St) = s1 := ⟨_, rfl⟩
    rw [hσ1]
    have f1 : Fr [] σ σ1 := ⟨by rw [← hσ1]; simp, fun q _ hq => by rw [← hσ1]; simp [List.getElem?_append_left hq]⟩
    have g1 : σ1.objs[σ.objs.length]? = some (.cells [.d b1, B (textS s t.size).2.2]) := by rw [← hσ1]; simp
    have hq1 := f1.get hq (by simp)
    have hv1 : InAt σ1 r s v := ⟨f1.get hv.obj (by simp), hv.lv, hv.tl⟩
    refine w_drw (fun _ => .raw) [16, 10] (by decide +kernel) ?_
    simp -implicitDefEqProofs [body_eq, w_skip, w_ops, w_seq, w_cond, w_block, w_exit, w_ret, q_then_n, q_then_e, q_then_r, q_blk_n, q_blk_e, q_blk_r, q_ops, q_cont, q_end_n, q_end_r, q_end_e, q_loop_n, q_loop_e, q_loop_r, i_nil, i_p, i_alloc, i_box, i_store, i_copy, i_clear, i_make, i_call, i_callv, i_when, t_nil, t_p, t_call, t_alloc, t_box, t_store, kept_nil, t_copy, t_clear, t_make, q_tcont, gsel, List.cons_append, List.nil_append, evalP, evalE, Opd.ev, Env.get, Env.set, Env.pick, putE, initEnv, evalBin, intBin, evalUn, evalConv, goneAll, goneOne, retV, resAll, Res.ev, tupOf, byVals, byValsN, bv_d, bv_da, bv_fl, bv_tl, bn_d, bn_da, bn_fl, bn_tl, cx, Dn.newObj, St.place, St.push, St.spot, St.empty, cell_d, cell_da, cell_agg, cell_ref, cell_sl, cell_fl, cell_tl, cell_map, cell_fn, cell_ifc, loadAt, faddrV, partOf, extractV, mkAgg, ofD, splice, St.setObj, fillV, room_zero, g1, hq1, t.c1, ofD]
    refine use_rawN rfl (s_gText hv1 t.size ht.z.2 hl) (by obtain ⟨σ', hσ'⟩ := Got.ex hv1 (textS s t.size).2; exact ⟨_, σ', rfl, hσ'⟩) fun w σ2 ⟨hw, hg⟩ => ⟨?_, ?_⟩
    · intro t' ht' q' hq'
      have hne : q' ≠ r := by
        simp at ht'
        rcases ht' with rfl | rfl <;> simp [Env.get, dref] at hq' <;> omega
      have hlt : q' < σ1.objs.length := by
        simp at ht'
        have := (List.getElem?_eq_some_iff.1 g1).1
        have := f1.len
        rcases ht' with rfl | rfl <;> simp [Env.get, dref] at hq' <;> omega
      exact hg.fr.at_ q' (by simpa using hne) hlt
    subst hw
    have hp2 : σ2.objs[p]? = some (.cells [.d b, B s.2]) := hg.fr.get (f1.get hb (by simp)) (by simpa using fun e => hn e.symm)
    simp -implicitDefEqProofs [body_eq, w_skip, w_ops, w_seq, w_cond, w_block, w_exit, w_ret, q_then_n, q_then_e, q_then_r, q_blk_n, q_blk_e, q_blk_r, q_ops, q_cont, q_end_n, q_end_r, q_end_e, q_loop_n, q_loop_e, q_loop_r, i_nil, i_p, i_alloc, i_box, i_store, i_copy, i_clear, i_make, i_call, i_callv, i_when, t_nil, t_p, t_call, t_alloc, t_box, t_store, kept_nil, t_copy, t_clear, t_make, q_tcont, gsel, List.cons_append, List.nil_append, evalP, evalE, Opd.ev, Env.get, Env.set, Env.pick, putE, initEnv, evalBin, intBin, evalUn, evalConv, goneAll, goneOne, retV, resAll, Res.ev, tupOf, byVals, byValsN, bv_d, bv_da, bv_fl, bv_tl, bn_d, bn_da, bn_fl, bn_tl, cx, Dn.newObj, St.place, St.push, St.spot, St.empty, cell_d, cell_da, cell_agg, cell_ref, cell_sl, cell_fl, cell_tl, cell_map, cell_fn, cell_ifc, loadAt, faddrV, partOf, extractV, mkAgg, ofD, splice, St.setObj, fillV, room_zero, hp2, strBin_eq]
    exact ⟨Kept.set (by simp [Env.get, dref]; omega), reads_look (h.step hb1 hg f1) (hQ _ (h.step hb1 hg f1))⟩
  · have hgot : t.got s = (hashS s).2 := by simp [TG.got, h0, h1, h2]
    rw [hgot] at hQ
    have hhl : (hashS s).1.length = 32 := by simp [hashS, -List.reduceReplicate]
    have hdl : (hd (hashS s).1).length = 32 := by rw [hd_len, hhl]
    have htk : List.take 32 (List.map V.d (hd (hashS s).1)) = List.map V.d (hd (hashS s).1) := List.take_of_length_le (by simp [hdl])
    simp -implicitDefEqProofs [body_eq, w_skip, w_ops, w_seq, w_cond, w_block, w_exit, w_ret, q_then_n, q_then_e, q_then_r, q_blk_n, q_blk_e, q_blk_r, q_ops, q_cont, q_end_n, q_end_r, q_end_e, q_loop_n, q_loop_e, q_loop_r, i_nil, i_p, i_alloc, i_box, i_store, i_copy, i_clear, i_make, i_call, i_callv, i_when, t_nil, t_p, t_call, t_alloc, t_box, t_store, kept_nil, t_copy, t_clear, t_make, q_tcont, gsel, List.cons_append, List.nil_append, evalP, evalE, Opd.ev, Env.get, Env.set, Env.pick, putE, initEnv, evalBin, intBin, evalUn, evalConv, goneAll, goneOne, retV, resAll, Res.ev, tupOf, byVals, byValsN, bv_d, bv_da, bv_fl, bv_tl, bn_d, bn_da, bn_fl, bn_tl, cx, Dn.newObj, St.place, St.push, St.spot, St.empty, cell_d, cell_da, cell_agg, cell_ref, cell_sl, cell_fl, cell_tl, cell_map, cell_fn, cell_ifc, loadAt, faddrV, partOf, extractV, mkAgg, ofD, splice, St.setObj, fillV, -List.reduceReplicate, h0, h1, h2, c5_k16, c5_k15, c5_k14, c5_k13, c5_k12, c5_k11, hb, ofD]
    refine use_val (ds := [.da [b, .bool s.2]]) rfl (s_ReadHash hlv hl) ?_
    rintro v1 s1 ⟨b1, rfl, hb1⟩
    refine ⟨by simp [V.pure, V.flatv], fun h => by simp [V.borrows] at h, ?_⟩
    simp -implicitDefEqProofs [body_eq, w_skip, w_ops, w_seq, w_cond, w_block, w_exit, w_ret, q_then_n, q_then_e, q_then_r, q_blk_n, q_blk_e, q_blk_r, q_ops, q_cont, q_end_n, q_end_r, q_end_e, q_loop_n, q_loop_e, q_loop_r, i_nil, i_p, i_alloc, i_box, i_store, i_copy, i_clear, i_make, i_call, i_callv, i_when, t_nil, t_p, t_call, t_alloc, t_box, t_store, kept_nil, t_copy, t_clear, t_make, q_tcont, gsel, List.cons_append, List.nil_append, evalP, evalE, Opd.ev, Env.get, Env.set, Env.pick, putE, initEnv, evalBin, intBin, evalUn, evalConv, goneAll, goneOne, retV, resAll, Res.ev, tupOf, byVals, byValsN, bv_d, bv_da, bv_fl, bv_tl, bn_d, bn_da, bn_fl, bn_tl, cx, Dn.newObj, St.place, St.push, St.spot, St.empty, cell_d, cell_da, cell_agg, cell_ref, cell_sl, cell_fl, cell_tl, cell_map, cell_fn, cell_ifc, loadAt, faddrV, partOf, extractV, mkAgg, ofD, splice, St.setObj, fillV, -List.reduceReplicate, hdl]
    obtain ⟨σ1, hσ1⟩ : ∃ s1 : St, (⟨σ.objs ++ [.cells [.d b1, .d (.bool (hashS s).2.2)], .cells ((hd (hashS s).1).map V.d)], σ.toks⟩ : St) = s1 := ⟨_, rfl⟩
    rw [hσ1]
    have f1 : Fr [] σ σ1 := ⟨by rw [← hσ1]; simp, fun q _ hq => by rw [← hσ1]; simp [List.getElem?_append_left hq]⟩
    have g1 : σ1.objs[σ.objs.length]? = some (.cells [.d b1, B (hashS s).2.2]) := by rw [← hσ1]; simp
    have g2 : σ1.objs[σ.objs.length + 1]? = some (.cells ((hd (hashS s).1).map V.d)) := by rw [← hσ1]; simp
    have hv1 : InAt σ1 r s v := ⟨f1.get hv.obj (by simp), hv.lv, hv.tl⟩
    refine w_drw (fun _ => .raw) [18, 19] (by decide +kernel) ?_
    simp -implicitDefEqProofs [body_eq, w_skip, w_ops, w_seq, w_cond, w_block, w_exit, w_ret, q_then_n, q_then_e, q_then_r, q_blk_n, q_blk_e, q_blk_r, q_ops, q_cont, q_end_n, q_end_r, q_end_e, q_loop_n, q_loop_e, q_loop_r, i_nil, i_p, i_alloc, i_box, i_store, i_copy, i_clear, i_make, i_call, i_callv, i_when, t_nil, t_p, t_call, t_alloc, t_box, t_store, kept_nil, t_copy, t_clear, t_make, q_tcont, gsel, List.cons_append, List.nil_append, evalP, evalE, Opd.ev, Env.get, Env.set, Env.pick, putE, initEnv, evalBin, intBin, evalUn, evalConv, goneAll, goneOne, retV, resAll, Res.ev, tupOf, byVals, byValsN, bv_d, bv_da, bv_fl, bv_tl, bn_d, bn_da, bn_fl, bn_tl, cx, Dn.newObj, St.place, St.push, St.spot, St.empty, cell_d, cell_da, cell_agg, cell_ref, cell_sl, cell_fl, cell_tl, cell_map, cell_fn, cell_ifc, loadAt, faddrV, partOf, extractV, mkAgg, ofD, splice, St.setObj, fillV, -List.reduceReplicate, room_zero, g1, ofD]
    refine use_rawN rfl (s_gHash hv1 hl) (by obtain ⟨σ', hσ'⟩ := Got.ex hv1 (hashS s).2; exact ⟨_, σ', rfl, hσ'⟩) fun w σ2 ⟨hw, hg⟩ => ⟨?_, ?_⟩
    · intro t' ht' q' hq'
      have hne : q' ≠ r := by
        simp at ht'
        rcases ht' with rfl | rfl <;> simp [Env.get, dref] at hq' <;> omega
      have hlt : q' < σ1.objs.length := by
        simp at ht'
        have := (List.getElem?_eq_some_iff.1 g2).1
        rcases ht' with rfl | rfl <;> simp [Env.get, dref] at hq' <;> omega
      exact hg.fr.at_ q' (by simpa using hne) hlt
    subst hw
    have hp2 : σ2.objs[p]? = some (.cells [.d b, B s.2]) := hg.fr.get (f1.get hb (by simp)) (by simpa using fun e => hn e.symm)
    have hgr2 : σ2.objs[σ.objs.length + 1]? = some (.cells ((hd (hashS s).1).map V.d)) := hg.fr.get g2 (by simp; omega)
    have hfa : fitsAll (List.replicate 32 (.int .u8)) (hd (hashS s).1) = true := by rw [← hhl]; exact fits_hd _
    simp -implicitDefEqProofs [body_eq, w_skip, w_ops, w_seq, w_cond, w_block, w_exit, w_ret, q_then_n, q_then_e, q_then_r, q_blk_n, q_blk_e, q_blk_r, q_ops, q_cont, q_end_n, q_end_r, q_end_e, q_loop_n, q_loop_e, q_loop_r, i_nil, i_p, i_alloc, i_box, i_store, i_copy, i_clear, i_make, i_call, i_callv, i_when, t_nil, t_p, t_call, t_alloc, t_box, t_store, kept_nil, t_copy, t_clear, t_make, q_tcont, gsel, List.cons_append, List.nil_append, evalP, evalE, Opd.ev, Env.get, Env.set, Env.pick, putE, initEnv, evalBin, intBin, evalUn, evalConv, goneAll, goneOne, retV, resAll, Res.ev, tupOf, byVals, byValsN, bv_d, bv_da, bv_fl, bv_tl, bn_d, bn_da, bn_fl, bn_tl, cx, Dn.newObj, St.place, St.push, St.spot, St.empty, cell_d, cell_da, cell_agg, cell_ref, cell_sl, cell_fl, cell_tl, cell_map, cell_fn, cell_ifc, loadAt, faddrV, partOf, extractV, mkAgg, ofD, splice, St.setObj, fillV, -List.reduceReplicate, room_zero, hp2, hgr2, hdl, htk, ofD_hd, eqV, hfa]
    exact ⟨Kept.set (by simp [Env.get, dref]; omega), reads_look (h.step hb1 hg f1) (hQ _ (h.step hb1 hg f1))⟩

end Go.Proofs.Ytjkedjjahjlmfaa.T
