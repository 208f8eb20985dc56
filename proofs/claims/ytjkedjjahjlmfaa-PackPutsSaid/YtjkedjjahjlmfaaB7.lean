import Derived.Test.YtjkedjjahjlmfaaB6
import Derived.Laws.BitsAllLaws
namespace Go.Proofs.Ytjkedjjahjlmfaa.T
open Go.Dn
set_option linter.unusedSimpArgs false
set_option linter.unusedVariables false

/-- A reader: bytes that are left; is it wrong? -/
abbrev Rd := List UInt8 × Bool
structure InAt (σ : St) (r : Nat) (s : Rd) (v : V) : Prop where
  obj : σ.objs[r]? = some (.cells [v, B s.2])
  lv : LV v (byteRows s.1)
  tl : ∀ a t st z, v = .tl a t st z → z = 1

/-- What a function that reads leaves. -/
structure Got (σ : St) (r : Nat) (s : Rd) (σ' : St) : Prop where
  at_ : ∃ v, InAt σ' r s v
  fr : Fr [r] σ σ'
  tk : σ'.toks = σ.toks

theorem Got.trans {σ σ' σ'' : St} {r : Nat} {s s' : Rd} (h : Got σ r s σ') (h' : Got σ' r s' σ'') : Got σ r s' σ'' := ⟨h'.at_, h.fr.trans h'.fr, h'.tk.trans h.tk⟩
theorem Got.refl {σ : St} {r : Nat} {s : Rd} {v : V} (h : InAt σ r s v) : Got σ r s σ := ⟨⟨v, h⟩, Fr.refl _ _, rfl⟩
theorem Fr.set (σ : St) (r : Nat) (o : Dn.Obj) : Fr [r] σ ⟨σ.objs.set r o, σ.toks⟩ := ⟨by simp, fun q hq hl => by simp only; rw [List.getElem?_set_ne (fun e => hq (by simp [e]))]⟩

def wrongS : Rd := ([], true)

theorem s_fail {σ : St} {r : Nat} {s : Rd} {v : V} (h : InAt σ r s v) : Dn.Call Γ cx .raw 42 [.ref r 0] σ fun _ σ' => Got σ r wrongS σ' := by
  refine Dn.Call.body (fc := c42) rfl ?_
  have hl : r < σ.objs.length := (List.getElem?_eq_some_iff.1 h.obj).1
  have hset : ∀ o : Dn.Obj, (σ.objs.set r o)[r]? = some o := fun o => List.getElem?_set_self hl
  simp -implicitDefEqProofs [body_eq, w_skip, w_ops, w_seq, w_cond, w_block, w_exit, w_ret, q_then_n, q_then_e, q_then_r, q_blk_n, q_blk_e, q_blk_r, q_ops, q_cont, q_end_n, q_end_r, q_end_e, q_loop_n, q_loop_e, q_loop_r, i_nil, i_p, i_alloc, i_box, i_store, i_copy, i_clear, i_make, i_call, i_callv, i_when, t_nil, t_p, t_call, t_alloc, t_box, t_store, t_copy, t_clear, t_make, q_tcont, gsel, List.cons_append, List.nil_append, evalP, evalE, Opd.ev, Env.get, Env.set, Env.pick, putE, initEnv, evalBin, intBin, evalUn, evalConv, goneAll, goneOne, retV, resAll, Res.ev, tupOf, byVals, byValsN, bv_d, bv_da, bv_fl, bv_tl, bn_d, bn_da, bn_fl, bn_tl, cx, Dn.newObj, St.place, St.push, St.spot, St.empty, cell_d, cell_da, cell_agg, cell_ref, cell_sl, cell_fl, cell_tl, cell_map, cell_fn, cell_ifc, loadAt, faddrV, partOf, extractV, mkAgg, ofD, splice, St.setObj, fillV, c42, c42_k0, eqV, V.isNil, Opd.isC, nilCheckV, h.obj, hset]
  exact ⟨⟨.d .nils, ⟨by simp [hset, wrongS], by simpa [wrongS, byteRows] using LV.nil, fun a t st z e => by cases e⟩⟩, Fr.set _ _ _, rfl⟩

theorem s_failNil (σ : St) : Dn.Call Γ cx .raw 42 [.d .nilp] σ fun _ σ' => σ' = σ := by
  refine Dn.Call.body (fc := c42) rfl ?_
  simp -implicitDefEqProofs [body_eq, w_skip, w_ops, w_seq, w_cond, w_block, w_exit, w_ret, q_then_n, q_then_e, q_then_r, q_blk_n, q_blk_e, q_blk_r, q_ops, q_cont, q_end_n, q_end_r, q_end_e, q_loop_n, q_loop_e, q_loop_r, i_nil, i_p, i_alloc, i_box, i_store, i_copy, i_clear, i_make, i_call, i_callv, i_when, t_nil, t_p, t_call, t_alloc, t_box, t_store, t_copy, t_clear, t_make, q_tcont, gsel, List.cons_append, List.nil_append, evalP, evalE, Opd.ev, Env.get, Env.set, Env.pick, putE, initEnv, evalBin, intBin, evalUn, evalConv, goneAll, goneOne, retV, resAll, Res.ev, tupOf, byVals, byValsN, bv_d, bv_da, bv_fl, bv_tl, bn_d, bn_da, bn_fl, bn_tl, cx, Dn.newObj, St.place, St.push, St.spot, St.empty, cell_d, cell_da, cell_agg, cell_ref, cell_sl, cell_fl, cell_tl, cell_map, cell_fn, cell_ifc, loadAt, faddrV, partOf, extractV, mkAgg, ofD, splice, St.setObj, fillV, c42, c42_k0, eqV, V.isNil, Opd.isC]

def noNext (s : Rd) (n : Int) : Bool := s.2 || decide (n < 0) || decide (s.1.length < n)
def nextS (s : Rd) (n : Int) : List UInt8 × Rd := if noNext s n then ([], wrongS) else (s.1.take n.toNat, (s.1.drop n.toNat, false))

theorem s_next {σ : St} {r : Nat} {s : Rd} {v : V} (h : InAt σ r s v) (n : Int) (hl : s.1.length ≤ 1099511627776) :
    Dn.Call Γ cx .raw 43 [.ref r 0, I n] σ fun w σ' => LV w (byteRows (nextS s n).1) ∧ Got σ r (nextS s n).2 σ' := by
  refine Dn.Call.body (fc := c43) rfl ?_
  obtain ⟨b, bad⟩ := s
  have hlt : r < σ.objs.length := (List.getElem?_eq_some_iff.1 h.obj).1
  have hlen := h.lv.len σ
  rw [byteRows_len] at hlen
  have hob := h.obj
  simp only at hl hlen hob
  have hlv0 : LV v (byteRows b) := h.lv
  have bad1 : noNext (b, bad) n = true → wcode (Dn.Call Γ cx) cx c43_k3 [(0, .ref r 0), (1, I n), (26, B true)] σ (thenQ (Dn.Call Γ cx) cx c43_k2 (endQ .raw σ [.tmp 4] fun w σ' => LV w (byteRows (nextS (b, bad) n).1) ∧ Got σ r (nextS (b, bad) n).2 σ')) := fun hn => by
    simp -implicitDefEqProofs [body_eq, w_skip, w_ops, w_seq, w_cond, w_block, w_exit, w_ret, q_then_n, q_then_e, q_then_r, q_blk_n, q_blk_e, q_blk_r, q_ops, q_cont, q_end_n, q_end_r, q_end_e, q_loop_n, q_loop_e, q_loop_r, i_nil, i_p, i_alloc, i_box, i_store, i_copy, i_clear, i_make, i_call, i_callv, i_when, t_nil, t_p, t_call, t_alloc, t_box, t_store, t_copy, t_clear, t_make, q_tcont, gsel, List.cons_append, List.nil_append, evalP, evalE, Opd.ev, Env.get, Env.set, Env.pick, putE, initEnv, evalBin, intBin, evalUn, evalConv, goneAll, goneOne, retV, resAll, Res.ev, tupOf, byVals, byValsN, bv_d, bv_da, bv_fl, bv_tl, bn_d, bn_da, bn_fl, bn_tl, cx, Dn.newObj, St.place, St.push, St.spot, St.empty, cell_d, cell_da, cell_agg, cell_ref, cell_sl, cell_fl, cell_tl, cell_map, cell_fn, cell_ifc, loadAt, faddrV, partOf, extractV, mkAgg, ofD, splice, St.setObj, fillV, c43_k3]
    refine use_raw (s_fail h) fun w s' hw => ?_
    simp -implicitDefEqProofs [body_eq, w_skip, w_ops, w_seq, w_cond, w_block, w_exit, w_ret, q_then_n, q_then_e, q_then_r, q_blk_n, q_blk_e, q_blk_r, q_ops, q_cont, q_end_n, q_end_r, q_end_e, q_loop_n, q_loop_e, q_loop_r, i_nil, i_p, i_alloc, i_box, i_store, i_copy, i_clear, i_make, i_call, i_callv, i_when, t_nil, t_p, t_call, t_alloc, t_box, t_store, t_copy, t_clear, t_make, q_tcont, gsel, List.cons_append, List.nil_append, evalP, evalE, Opd.ev, Env.get, Env.set, Env.pick, putE, initEnv, evalBin, intBin, evalUn, evalConv, goneAll, goneOne, retV, resAll, Res.ev, tupOf, byVals, byValsN, bv_d, bv_da, bv_fl, bv_tl, bn_d, bn_da, bn_fl, bn_tl, cx, Dn.newObj, St.place, St.push, St.spot, St.empty, cell_d, cell_da, cell_agg, cell_ref, cell_sl, cell_fl, cell_tl, cell_map, cell_fn, cell_ifc, loadAt, faddrV, partOf, extractV, mkAgg, ofD, splice, St.setObj, fillV, nextS, hn]
    exact ⟨.nil, hw⟩
  cases bad with
  | true =>
    simp -implicitDefEqProofs [body_eq, w_skip, w_ops, w_seq, w_cond, w_block, w_exit, w_ret, q_then_n, q_then_e, q_then_r, q_blk_n, q_blk_e, q_blk_r, q_ops, q_cont, q_end_n, q_end_r, q_end_e, q_loop_n, q_loop_e, q_loop_r, i_nil, i_p, i_alloc, i_box, i_store, i_copy, i_clear, i_make, i_call, i_callv, i_when, t_nil, t_p, t_call, t_alloc, t_box, t_store, t_copy, t_clear, t_make, q_tcont, gsel, List.cons_append, List.nil_append, evalP, evalE, Opd.ev, Env.get, Env.set, Env.pick, putE, initEnv, evalBin, intBin, evalUn, evalConv, goneAll, goneOne, retV, resAll, Res.ev, tupOf, byVals, byValsN, bv_d, bv_da, bv_fl, bv_tl, bn_d, bn_da, bn_fl, bn_tl, cx, Dn.newObj, St.place, St.push, St.spot, St.empty, cell_d, cell_da, cell_agg, cell_ref, cell_sl, cell_fl, cell_tl, cell_map, cell_fn, cell_ifc, loadAt, faddrV, partOf, extractV, mkAgg, ofD, splice, St.setObj, fillV, c43, c43_k4, eqV, V.isNil, Opd.isC, nilCheckV, hob]
    exact bad1 (by simp [noNext])
  | false =>
    by_cases h1 : n < 0
    · simp -implicitDefEqProofs [body_eq, w_skip, w_ops, w_seq, w_cond, w_block, w_exit, w_ret, q_then_n, q_then_e, q_then_r, q_blk_n, q_blk_e, q_blk_r, q_ops, q_cont, q_end_n, q_end_r, q_end_e, q_loop_n, q_loop_e, q_loop_r, i_nil, i_p, i_alloc, i_box, i_store, i_copy, i_clear, i_make, i_call, i_callv, i_when, t_nil, t_p, t_call, t_alloc, t_box, t_store, t_copy, t_clear, t_make, q_tcont, gsel, List.cons_append, List.nil_append, evalP, evalE, Opd.ev, Env.get, Env.set, Env.pick, putE, initEnv, evalBin, intBin, evalUn, evalConv, goneAll, goneOne, retV, resAll, Res.ev, tupOf, byVals, byValsN, bv_d, bv_da, bv_fl, bv_tl, bn_d, bn_da, bn_fl, bn_tl, cx, Dn.newObj, St.place, St.push, St.spot, St.empty, cell_d, cell_da, cell_agg, cell_ref, cell_sl, cell_fl, cell_tl, cell_map, cell_fn, cell_ifc, loadAt, faddrV, partOf, extractV, mkAgg, ofD, splice, St.setObj, fillV, c43, c43_k4, eqV, V.isNil, Opd.isC, nilCheckV, hob, h1]
      exact bad1 (by simp [noNext, h1])
    by_cases h2 : (b.length : Int) < n
    · simp -implicitDefEqProofs [body_eq, w_skip, w_ops, w_seq, w_cond, w_block, w_exit, w_ret, q_then_n, q_then_e, q_then_r, q_blk_n, q_blk_e, q_blk_r, q_ops, q_cont, q_end_n, q_end_r, q_end_e, q_loop_n, q_loop_e, q_loop_r, i_nil, i_p, i_alloc, i_box, i_store, i_copy, i_clear, i_make, i_call, i_callv, i_when, t_nil, t_p, t_call, t_alloc, t_box, t_store, t_copy, t_clear, t_make, q_tcont, gsel, List.cons_append, List.nil_append, evalP, evalE, Opd.ev, Env.get, Env.set, Env.pick, putE, initEnv, evalBin, intBin, evalUn, evalConv, goneAll, goneOne, retV, resAll, Res.ev, tupOf, byVals, byValsN, bv_d, bv_da, bv_fl, bv_tl, bn_d, bn_da, bn_fl, bn_tl, cx, Dn.newObj, St.place, St.push, St.spot, St.empty, cell_d, cell_da, cell_agg, cell_ref, cell_sl, cell_fl, cell_tl, cell_map, cell_fn, cell_ifc, loadAt, faddrV, partOf, extractV, mkAgg, ofD, splice, St.setObj, fillV, c43, c43_k4, eqV, V.isNil, Opd.isC, nilCheckV, hob, h1, hlen, h2]
      exact bad1 (by simp [noNext, h2])
    have hn : noNext (b, false) n = false := by simp [noNext, h1, h2]
    obtain ⟨k, rfl⟩ : ∃ k : Nat, n = k := ⟨n.toNat, by omega⟩
    obtain ⟨v1, e1, lv1, tl1⟩ := hlv0.slice σ (byteRows_fit _) h.tl (lo := 0) (hi := k) (by omega) (by rw [byteRows_len]; omega)
    obtain ⟨v2, e2, lv2, tl2⟩ := hlv0.slice σ (byteRows_fit _) h.tl (lo := k) (hi := b.length) (by omega) (by rw [byteRows_len]; exact Nat.le_refl _)
    have hlv := hlv0.lenV σ
    rw [byteRows_len] at hlv
    have s1 : sliceX σ 1 v none (some (I k)) none = some v1 := by simp [sliceX, hlv, boundV, asIdx, e1]
    have s2 : sliceX σ 1 v (some (I k)) none none = some v2 := by
      have : (k : Int) ≤ b.length := by omega
      simp [sliceX, hlv, boundV, asIdx, this, e2]
    simp -implicitDefEqProofs [body_eq, w_skip, w_ops, w_seq, w_cond, w_block, w_exit, w_ret, q_then_n, q_then_e, q_then_r, q_blk_n, q_blk_e, q_blk_r, q_ops, q_cont, q_end_n, q_end_r, q_end_e, q_loop_n, q_loop_e, q_loop_r, i_nil, i_p, i_alloc, i_box, i_store, i_copy, i_clear, i_make, i_call, i_callv, i_when, t_nil, t_p, t_call, t_alloc, t_box, t_store, t_copy, t_clear, t_make, q_tcont, gsel, List.cons_append, List.nil_append, evalP, evalE, Opd.ev, Env.get, Env.set, Env.pick, putE, initEnv, evalBin, intBin, evalUn, evalConv, goneAll, goneOne, retV, resAll, Res.ev, tupOf, byVals, byValsN, bv_d, bv_da, bv_fl, bv_tl, bn_d, bn_da, bn_fl, bn_tl, cx, Dn.newObj, St.place, St.push, St.spot, St.empty, cell_d, cell_da, cell_agg, cell_ref, cell_sl, cell_fl, cell_tl, cell_map, cell_fn, cell_ifc, loadAt, faddrV, partOf, extractV, mkAgg, ofD, splice, St.setObj, fillV, c43, c43_k4, c43_k3, c43_k2, c43_k1, c43_k0, eqV, V.isNil, Opd.isC, nilCheckV, hob, h1, hlen, h2, s1, s2, lv2.cells, nextS, hn]
    refine ⟨?_, ⟨⟨v2, ⟨by simp [hlt], ?_, tl2⟩⟩, Fr.set _ _ _, rfl⟩⟩
    · simpa [byteRows_take] using lv1
    · have : (byteRows b).drop k = byteRows (b.drop k) := byteRows_drop _ _
      rw [this] at lv2
      rwa [List.take_of_length_le (by simp [byteRows_len])] at lv2

theorem s_nextNil (σ : St) (n : Int) : Dn.Call Γ cx .raw 43 [.d .nilp, I n] σ fun w σ' => w = .d .nils ∧ σ' = σ := by
  refine Dn.Call.body (fc := c43) rfl ?_
  simp -implicitDefEqProofs [body_eq, w_skip, w_ops, w_seq, w_cond, w_block, w_exit, w_ret, q_then_n, q_then_e, q_then_r, q_blk_n, q_blk_e, q_blk_r, q_ops, q_cont, q_end_n, q_end_r, q_end_e, q_loop_n, q_loop_e, q_loop_r, i_nil, i_p, i_alloc, i_box, i_store, i_copy, i_clear, i_make, i_call, i_callv, i_when, t_nil, t_p, t_call, t_alloc, t_box, t_store, t_copy, t_clear, t_make, q_tcont, gsel, List.cons_append, List.nil_append, evalP, evalE, Opd.ev, Env.get, Env.set, Env.pick, putE, initEnv, evalBin, intBin, evalUn, evalConv, goneAll, goneOne, retV, resAll, Res.ev, tupOf, byVals, byValsN, bv_d, bv_da, bv_fl, bv_tl, bn_d, bn_da, bn_fl, bn_tl, cx, Dn.newObj, St.place, St.push, St.spot, St.empty, cell_d, cell_da, cell_agg, cell_ref, cell_sl, cell_fl, cell_tl, cell_map, cell_fn, cell_ifc, loadAt, faddrV, partOf, extractV, mkAgg, ofD, splice, St.setObj, fillV, c43, c43_k4, c43_k3, eqV, V.isNil, Opd.isC]
  refine use_raw (s_failNil σ) fun w s hs => ?_
  subst hs
  simp -implicitDefEqProofs [body_eq, w_skip, w_ops, w_seq, w_cond, w_block, w_exit, w_ret, q_then_n, q_then_e, q_then_r, q_blk_n, q_blk_e, q_blk_r, q_ops, q_cont, q_end_n, q_end_r, q_end_e, q_loop_n, q_loop_e, q_loop_r, i_nil, i_p, i_alloc, i_box, i_store, i_copy, i_clear, i_make, i_call, i_callv, i_when, t_nil, t_p, t_call, t_alloc, t_box, t_store, t_copy, t_clear, t_make, q_tcont, gsel, List.cons_append, List.nil_append, evalP, evalE, Opd.ev, Env.get, Env.set, Env.pick, putE, initEnv, evalBin, intBin, evalUn, evalConv, goneAll, goneOne, retV, resAll, Res.ev, tupOf, byVals, byValsN, bv_d, bv_da, bv_fl, bv_tl, bn_d, bn_da, bn_fl, bn_tl, cx, Dn.newObj, St.place, St.push, St.spot, St.empty, cell_d, cell_da, cell_agg, cell_ref, cell_sl, cell_fl, cell_tl, cell_map, cell_fn, cell_ifc, loadAt, faddrV, partOf, extractV, mkAgg, ofD, splice, St.setObj, fillV]

/-- The number of bytes, the low one first. -/
def valB : List UInt8 → Nat
  | [] => 0
  | b :: r => b.toNat + 256 * valB r
theorem valB_app : ∀ (a : List UInt8) (b : UInt8), valB (a ++ [b]) = valB a + 256 ^ a.length * b.toNat
  | [], b => by simp [valB]
  | x :: a, b => by
    simp only [List.cons_append, valB, valB_app a b, List.length_cons, Nat.pow_succ]
    grind
theorem valB_lt : ∀ (a : List UInt8), valB a < 256 ^ a.length
  | [] => by simp [valB]
  | x :: a => by
    have := valB_lt a
    have hx := x.toNat_lt
    simp only [valB, List.length_cons, Nat.pow_succ]
    omega

def numS (s : Rd) (size : Int) : Int × Rd := if sized size then ((valB (nextS s size).1 : Int), (nextS s size).2) else (0, wrongS)

theorem nextS_len (s : Rd) (n : Int) (hn : n ≤ 8) : (nextS s n).1.length ≤ 8 := by
  unfold nextS
  split
  · simp
  · simp only [List.length_take]; omega

def InvGNum (o : List UInt8) (w : V) (σ' : St) (m : Nat) (e : Env) (σ : St) : Prop := ∃ (i : Nat), e = [(5, U (valB (o.take i))), (15, w), (16, I o.length), (17, I i)] ∧ i ≤ o.length ∧ m = o.length - i ∧ σ = σ'

theorem or_step (o : List UInt8) (i : Nat) (hi : i < o.length) (h8 : o.length ≤ 8) : bits .or .u64 (valB (o.take i)) (IntKind.u64.wrap ((o[i].toNat : Int) * 2 ^ (8 * i))) = (valB (o.take (i + 1)) : Nat) := by
  have h1 := valB_lt (o.take i)
  have hlen : (o.take i).length = i := by simp; omega
  rw [hlen] at h1
  have hb := o[i].toNat_lt
  have e256 : (256 : Nat) ^ i = 2 ^ (8 * i) := by rw [Nat.pow_mul]
  rw [e256] at h1
  have hp : 2 ^ (8 * i) * 256 ≤ 2 ^ 64 := by
    rw [show (256 : Nat) = 2 ^ 8 from rfl, ← Nat.pow_add]
    exact Nat.pow_le_pow_right (by decide) (by omega)
  have hm : o[i].toNat * 2 ^ (8 * i) < 18446744073709551616 := by
    have : o[i].toNat * 2 ^ (8 * i) < 256 * 2 ^ (8 * i) := Nat.mul_lt_mul_of_pos_right hb (Nat.pow_pos (by decide))
    have e64 : (2 : Nat) ^ 64 = 18446744073709551616 := by decide
    omega
  have hc : ((o[i].toNat : Int) * 2 ^ (8 * i)) = ((o[i].toNat * 2 ^ (8 * i) : Nat) : Int) := by simp
  rw [hc, wrap_u64 (by omega) (by omega)]
  have hp2 : 2 ^ (8 * i) ≤ 18446744073709551616 := by
    have e64 : (2 : Nat) ^ 64 = 18446744073709551616 := by decide
    omega
  rw [u64_or_nat _ _ (by omega) hm]
  congr 1
  rw [Nat.or_comm, Nat.mul_comm, ← Nat.two_pow_add_eq_or_of_lt h1, List.take_succ_eq_append_getElem hi, valB_app, hlen, e256]
  omega

theorem s_gNum {σ : St} {r : Nat} {s : Rd} {v : V} (h : InAt σ r s v) (size : Int) (hl : s.1.length ≤ 1099511627776) :
    Dn.Call Γ cx .raw 24 [.ref r 0, I size] σ fun w σ' => w = U (numS s size).1 ∧ Got σ r (numS s size).2 σ' := by
  refine Dn.Call.body (fc := c24) rfl ?_
  simp -implicitDefEqProofs [body_eq, w_skip, w_ops, w_seq, w_cond, w_block, w_exit, w_ret, q_then_n, q_then_e, q_then_r, q_blk_n, q_blk_e, q_blk_r, q_ops, q_cont, q_end_n, q_end_r, q_end_e, q_loop_n, q_loop_e, q_loop_r, i_nil, i_p, i_alloc, i_box, i_store, i_copy, i_clear, i_make, i_call, i_callv, i_when, t_nil, t_p, t_call, t_alloc, t_box, t_store, t_copy, t_clear, t_make, q_tcont, gsel, List.cons_append, List.nil_append, evalP, evalE, Opd.ev, Env.get, Env.set, Env.pick, putE, initEnv, evalBin, intBin, evalUn, evalConv, goneAll, goneOne, retV, resAll, Res.ev, tupOf, byVals, byValsN, bv_d, bv_da, bv_fl, bv_tl, bn_d, bn_da, bn_fl, bn_tl, cx, Dn.newObj, St.place, St.push, St.spot, St.empty, cell_d, cell_da, cell_agg, cell_ref, cell_sl, cell_fl, cell_tl, cell_map, cell_fn, cell_ifc, loadAt, faddrV, partOf, extractV, mkAgg, ofD, splice, St.setObj, fillV, c24, c24_k10]
  refine use_fn rfl (s_sized size) rfl ?_
  by_cases hs : sized size = true
  rotate_left
  · simp -implicitDefEqProofs [body_eq, w_skip, w_ops, w_seq, w_cond, w_block, w_exit, w_ret, q_then_n, q_then_e, q_then_r, q_blk_n, q_blk_e, q_blk_r, q_ops, q_cont, q_end_n, q_end_r, q_end_e, q_loop_n, q_loop_e, q_loop_r, i_nil, i_p, i_alloc, i_box, i_store, i_copy, i_clear, i_make, i_call, i_callv, i_when, t_nil, t_p, t_call, t_alloc, t_box, t_store, t_copy, t_clear, t_make, q_tcont, gsel, List.cons_append, List.nil_append, evalP, evalE, Opd.ev, Env.get, Env.set, Env.pick, putE, initEnv, evalBin, intBin, evalUn, evalConv, goneAll, goneOne, retV, resAll, Res.ev, tupOf, byVals, byValsN, bv_d, bv_da, bv_fl, bv_tl, bn_d, bn_da, bn_fl, bn_tl, cx, Dn.newObj, St.place, St.push, St.spot, St.empty, cell_d, cell_da, cell_agg, cell_ref, cell_sl, cell_fl, cell_tl, cell_map, cell_fn, cell_ifc, loadAt, faddrV, partOf, extractV, mkAgg, ofD, splice, St.setObj, fillV, hs, c24_k9]
    refine use_raw (s_fail h) fun w s' hw => ?_
    simp -implicitDefEqProofs [body_eq, w_skip, w_ops, w_seq, w_cond, w_block, w_exit, w_ret, q_then_n, q_then_e, q_then_r, q_blk_n, q_blk_e, q_blk_r, q_ops, q_cont, q_end_n, q_end_r, q_end_e, q_loop_n, q_loop_e, q_loop_r, i_nil, i_p, i_alloc, i_box, i_store, i_copy, i_clear, i_make, i_call, i_callv, i_when, t_nil, t_p, t_call, t_alloc, t_box, t_store, t_copy, t_clear, t_make, q_tcont, gsel, List.cons_append, List.nil_append, evalP, evalE, Opd.ev, Env.get, Env.set, Env.pick, putE, initEnv, evalBin, intBin, evalUn, evalConv, goneAll, goneOne, retV, resAll, Res.ev, tupOf, byVals, byValsN, bv_d, bv_da, bv_fl, bv_tl, bn_d, bn_da, bn_fl, bn_tl, cx, Dn.newObj, St.place, St.push, St.spot, St.empty, cell_d, cell_da, cell_agg, cell_ref, cell_sl, cell_fl, cell_tl, cell_map, cell_fn, cell_ifc, loadAt, faddrV, partOf, extractV, mkAgg, ofD, splice, St.setObj, fillV, numS, hs]
    exact hw
  · have h8 : size ≤ 8 := by have := sized_inv hs; omega
    simp -implicitDefEqProofs [body_eq, w_skip, w_ops, w_seq, w_cond, w_block, w_exit, w_ret, q_then_n, q_then_e, q_then_r, q_blk_n, q_blk_e, q_blk_r, q_ops, q_cont, q_end_n, q_end_r, q_end_e, q_loop_n, q_loop_e, q_loop_r, i_nil, i_p, i_alloc, i_box, i_store, i_copy, i_clear, i_make, i_call, i_callv, i_when, t_nil, t_p, t_call, t_alloc, t_box, t_store, t_copy, t_clear, t_make, q_tcont, gsel, List.cons_append, List.nil_append, evalP, evalE, Opd.ev, Env.get, Env.set, Env.pick, putE, initEnv, evalBin, intBin, evalUn, evalConv, goneAll, goneOne, retV, resAll, Res.ev, tupOf, byVals, byValsN, bv_d, bv_da, bv_fl, bv_tl, bn_d, bn_da, bn_fl, bn_tl, cx, Dn.newObj, St.place, St.push, St.spot, St.empty, cell_d, cell_da, cell_agg, cell_ref, cell_sl, cell_fl, cell_tl, cell_map, cell_fn, cell_ifc, loadAt, faddrV, partOf, extractV, mkAgg, ofD, splice, St.setObj, fillV, hs, c24_k9, c24_k8, c24_k7]
    refine use_raw (s_next h size hl) fun w σ' ⟨hw, hg⟩ => ?_
    have ho8 := nextS_len s size h8
    simp only [numS, hs, if_true]
    generalize (nextS s size).1 = o at hw ho8 ⊢
    have hlen := hw.len σ'
    rw [byteRows_len] at hlen
    simp -implicitDefEqProofs [body_eq, w_skip, w_ops, w_seq, w_cond, w_block, w_exit, w_ret, q_then_n, q_then_e, q_then_r, q_blk_n, q_blk_e, q_blk_r, q_ops, q_cont, q_end_n, q_end_r, q_end_e, q_loop_n, q_loop_e, q_loop_r, i_nil, i_p, i_alloc, i_box, i_store, i_copy, i_clear, i_make, i_call, i_callv, i_when, t_nil, t_p, t_call, t_alloc, t_box, t_store, t_copy, t_clear, t_make, q_tcont, gsel, List.cons_append, List.nil_append, evalP, evalE, Opd.ev, Env.get, Env.set, Env.pick, putE, initEnv, evalBin, intBin, evalUn, evalConv, goneAll, goneOne, retV, resAll, Res.ev, tupOf, byVals, byValsN, bv_d, bv_da, bv_fl, bv_tl, bn_d, bn_da, bn_fl, bn_tl, cx, Dn.newObj, St.place, St.push, St.spot, St.empty, cell_d, cell_da, cell_agg, cell_ref, cell_sl, cell_fl, cell_tl, cell_map, cell_fn, cell_ifc, loadAt, faddrV, partOf, extractV, mkAgg, ofD, splice, St.setObj, fillV, c24_k6, hlen]
    refine wloopI (InvGNum o w σ') (m := o.length) ⟨0, by simp [Env.pick, Env.get, valB], by omega, by omega, rfl⟩ ?_
    rintro m e σ2 ⟨i, rfl, hi, rfl, rfl⟩
    simp -implicitDefEqProofs [body_eq, w_skip, w_ops, w_seq, w_cond, w_block, w_exit, w_ret, q_then_n, q_then_e, q_then_r, q_blk_n, q_blk_e, q_blk_r, q_ops, q_cont, q_end_n, q_end_r, q_end_e, q_loop_n, q_loop_e, q_loop_r, i_nil, i_p, i_alloc, i_box, i_store, i_copy, i_clear, i_make, i_call, i_callv, i_when, t_nil, t_p, t_call, t_alloc, t_box, t_store, t_copy, t_clear, t_make, q_tcont, gsel, List.cons_append, List.nil_append, evalP, evalE, Opd.ev, Env.get, Env.set, Env.pick, putE, initEnv, evalBin, intBin, evalUn, evalConv, goneAll, goneOne, retV, resAll, Res.ev, tupOf, byVals, byValsN, bv_d, bv_da, bv_fl, bv_tl, bn_d, bn_da, bn_fl, bn_tl, cx, Dn.newObj, St.place, St.push, St.spot, St.empty, cell_d, cell_da, cell_agg, cell_ref, cell_sl, cell_fl, cell_tl, cell_map, cell_fn, cell_ifc, loadAt, faddrV, partOf, extractV, mkAgg, ofD, splice, St.setObj, fillV, c24_l5, c24_k4]
    by_cases hik : i < o.length
    rotate_left
    · obtain rfl : i = o.length := by omega
      simp -implicitDefEqProofs [body_eq, w_skip, w_ops, w_seq, w_cond, w_block, w_exit, w_ret, q_then_n, q_then_e, q_then_r, q_blk_n, q_blk_e, q_blk_r, q_ops, q_cont, q_end_n, q_end_r, q_end_e, q_loop_n, q_loop_e, q_loop_r, i_nil, i_p, i_alloc, i_box, i_store, i_copy, i_clear, i_make, i_call, i_callv, i_when, t_nil, t_p, t_call, t_alloc, t_box, t_store, t_copy, t_clear, t_make, q_tcont, gsel, List.cons_append, List.nil_append, evalP, evalE, Opd.ev, Env.get, Env.set, Env.pick, putE, initEnv, evalBin, intBin, evalUn, evalConv, goneAll, goneOne, retV, resAll, Res.ev, tupOf, byVals, byValsN, bv_d, bv_da, bv_fl, bv_tl, bn_d, bn_da, bn_fl, bn_tl, cx, Dn.newObj, St.place, St.push, St.spot, St.empty, cell_d, cell_da, cell_agg, cell_ref, cell_sl, cell_fl, cell_tl, cell_map, cell_fn, cell_ifc, loadAt, faddrV, partOf, extractV, mkAgg, ofD, splice, St.setObj, fillV, c24_k0]
      exact hg
    have hia := hw.iaddr σ2 (k := .i64) (sz := 1) (byteRows_at (l := o) (i := i) (b := o[i]) (by simp [hik])) rfl
    have e8 : IntKind.i64.wrap (8 * (i : Int)) = 8 * i := wrap_i64 (by omega) (by omega)
    have eb : min (8 * (i : Int)).toNat IntKind.u64.bits = 8 * i := by
      have : (8 * (i : Int)).toNat = 8 * i := by omega
      rw [this]
      exact Nat.min_eq_left (by have : IntKind.u64.bits = 64 := rfl; omega)
    have hneg : ¬ (8 * (i : Int) < 0) := by omega
    have hbb := o[i].toNat_lt
    have ew : IntKind.u64.wrap (o[i].toNat : Int) = o[i].toNat := wrap_u64 (by omega) (by omega)
    simp -implicitDefEqProofs [body_eq, w_skip, w_ops, w_seq, w_cond, w_block, w_exit, w_ret, q_then_n, q_then_e, q_then_r, q_blk_n, q_blk_e, q_blk_r, q_ops, q_cont, q_end_n, q_end_r, q_end_e, q_loop_n, q_loop_e, q_loop_r, i_nil, i_p, i_alloc, i_box, i_store, i_copy, i_clear, i_make, i_call, i_callv, i_when, t_nil, t_p, t_call, t_alloc, t_box, t_store, t_copy, t_clear, t_make, q_tcont, gsel, List.cons_append, List.nil_append, evalP, evalE, Opd.ev, Env.get, Env.set, Env.pick, putE, initEnv, evalBin, intBin, evalUn, evalConv, goneAll, goneOne, retV, resAll, Res.ev, tupOf, byVals, byValsN, bv_d, bv_da, bv_fl, bv_tl, bn_d, bn_da, bn_fl, bn_tl, cx, Dn.newObj, St.place, St.push, St.spot, St.empty, cell_d, cell_da, cell_agg, cell_ref, cell_sl, cell_fl, cell_tl, cell_map, cell_fn, cell_ifc, loadAt, faddrV, partOf, extractV, mkAgg, ofD, splice, St.setObj, fillV, hik, c24_k3, c24_k2, c24_k1, hia, shiftBin, e8, eb, hneg, ew, or_step o i hik ho8, wrap_i64 (n := (i : Int) + 1) (by omega) (by omega)]
    exact ⟨o.length - (i + 1), by omega, i + 1, rfl, by omega, rfl, rfl⟩

theorem s_gNumNil (σ : St) (size : Int) : Dn.Call Γ cx .raw 24 [.d .nilp, I size] σ fun w σ' => w = U 0 ∧ σ' = σ := by
  refine Dn.Call.body (fc := c24) rfl ?_
  simp -implicitDefEqProofs [body_eq, w_skip, w_ops, w_seq, w_cond, w_block, w_exit, w_ret, q_then_n, q_then_e, q_then_r, q_blk_n, q_blk_e, q_blk_r, q_ops, q_cont, q_end_n, q_end_r, q_end_e, q_loop_n, q_loop_e, q_loop_r, i_nil, i_p, i_alloc, i_box, i_store, i_copy, i_clear, i_make, i_call, i_callv, i_when, t_nil, t_p, t_call, t_alloc, t_box, t_store, t_copy, t_clear, t_make, q_tcont, gsel, List.cons_append, List.nil_append, evalP, evalE, Opd.ev, Env.get, Env.set, Env.pick, putE, initEnv, evalBin, intBin, evalUn, evalConv, goneAll, goneOne, retV, resAll, Res.ev, tupOf, byVals, byValsN, bv_d, bv_da, bv_fl, bv_tl, bn_d, bn_da, bn_fl, bn_tl, cx, Dn.newObj, St.place, St.push, St.spot, St.empty, cell_d, cell_da, cell_agg, cell_ref, cell_sl, cell_fl, cell_tl, cell_map, cell_fn, cell_ifc, loadAt, faddrV, partOf, extractV, mkAgg, ofD, splice, St.setObj, fillV, c24, c24_k10]
  refine use_fn rfl (s_sized size) rfl ?_
  by_cases hs : sized size = true
  rotate_left
  · simp -implicitDefEqProofs [body_eq, w_skip, w_ops, w_seq, w_cond, w_block, w_exit, w_ret, q_then_n, q_then_e, q_then_r, q_blk_n, q_blk_e, q_blk_r, q_ops, q_cont, q_end_n, q_end_r, q_end_e, q_loop_n, q_loop_e, q_loop_r, i_nil, i_p, i_alloc, i_box, i_store, i_copy, i_clear, i_make, i_call, i_callv, i_when, t_nil, t_p, t_call, t_alloc, t_box, t_store, t_copy, t_clear, t_make, q_tcont, gsel, List.cons_append, List.nil_append, evalP, evalE, Opd.ev, Env.get, Env.set, Env.pick, putE, initEnv, evalBin, intBin, evalUn, evalConv, goneAll, goneOne, retV, resAll, Res.ev, tupOf, byVals, byValsN, bv_d, bv_da, bv_fl, bv_tl, bn_d, bn_da, bn_fl, bn_tl, cx, Dn.newObj, St.place, St.push, St.spot, St.empty, cell_d, cell_da, cell_agg, cell_ref, cell_sl, cell_fl, cell_tl, cell_map, cell_fn, cell_ifc, loadAt, faddrV, partOf, extractV, mkAgg, ofD, splice, St.setObj, fillV, hs, c24_k9]
    refine use_raw (s_failNil σ) fun w s' hw => ?_
    subst hw
    simp -implicitDefEqProofs [body_eq, w_skip, w_ops, w_seq, w_cond, w_block, w_exit, w_ret, q_then_n, q_then_e, q_then_r, q_blk_n, q_blk_e, q_blk_r, q_ops, q_cont, q_end_n, q_end_r, q_end_e, q_loop_n, q_loop_e, q_loop_r, i_nil, i_p, i_alloc, i_box, i_store, i_copy, i_clear, i_make, i_call, i_callv, i_when, t_nil, t_p, t_call, t_alloc, t_box, t_store, t_copy, t_clear, t_make, q_tcont, gsel, List.cons_append, List.nil_append, evalP, evalE, Opd.ev, Env.get, Env.set, Env.pick, putE, initEnv, evalBin, intBin, evalUn, evalConv, goneAll, goneOne, retV, resAll, Res.ev, tupOf, byVals, byValsN, bv_d, bv_da, bv_fl, bv_tl, bn_d, bn_da, bn_fl, bn_tl, cx, Dn.newObj, St.place, St.push, St.spot, St.empty, cell_d, cell_da, cell_agg, cell_ref, cell_sl, cell_fl, cell_tl, cell_map, cell_fn, cell_ifc, loadAt, faddrV, partOf, extractV, mkAgg, ofD, splice, St.setObj, fillV]
  · simp -implicitDefEqProofs [body_eq, w_skip, w_ops, w_seq, w_cond, w_block, w_exit, w_ret, q_then_n, q_then_e, q_then_r, q_blk_n, q_blk_e, q_blk_r, q_ops, q_cont, q_end_n, q_end_r, q_end_e, q_loop_n, q_loop_e, q_loop_r, i_nil, i_p, i_alloc, i_box, i_store, i_copy, i_clear, i_make, i_call, i_callv, i_when, t_nil, t_p, t_call, t_alloc, t_box, t_store, t_copy, t_clear, t_make, q_tcont, gsel, List.cons_append, List.nil_append, evalP, evalE, Opd.ev, Env.get, Env.set, Env.pick, putE, initEnv, evalBin, intBin, evalUn, evalConv, goneAll, goneOne, retV, resAll, Res.ev, tupOf, byVals, byValsN, bv_d, bv_da, bv_fl, bv_tl, bn_d, bn_da, bn_fl, bn_tl, cx, Dn.newObj, St.place, St.push, St.spot, St.empty, cell_d, cell_da, cell_agg, cell_ref, cell_sl, cell_fl, cell_tl, cell_map, cell_fn, cell_ifc, loadAt, faddrV, partOf, extractV, mkAgg, ofD, splice, St.setObj, fillV, hs, c24_k9, c24_k8, c24_k7]
    refine use_raw (s_nextNil σ size) fun w σ' ⟨hw, hg⟩ => ?_
    subst hw hg
    simp -implicitDefEqProofs [body_eq, w_skip, w_ops, w_seq, w_cond, w_block, w_exit, w_ret, q_then_n, q_then_e, q_then_r, q_blk_n, q_blk_e, q_blk_r, q_ops, q_cont, q_end_n, q_end_r, q_end_e, q_loop_n, q_loop_e, q_loop_r, i_nil, i_p, i_alloc, i_box, i_store, i_copy, i_clear, i_make, i_call, i_callv, i_when, t_nil, t_p, t_call, t_alloc, t_box, t_store, t_copy, t_clear, t_make, q_tcont, gsel, List.cons_append, List.nil_append, evalP, evalE, Opd.ev, Env.get, Env.set, Env.pick, putE, initEnv, evalBin, intBin, evalUn, evalConv, goneAll, goneOne, retV, resAll, Res.ev, tupOf, byVals, byValsN, bv_d, bv_da, bv_fl, bv_tl, bn_d, bn_da, bn_fl, bn_tl, cx, Dn.newObj, St.place, St.push, St.spot, St.empty, cell_d, cell_da, cell_agg, cell_ref, cell_sl, cell_fl, cell_tl, cell_map, cell_fn, cell_ifc, loadAt, faddrV, partOf, extractV, mkAgg, ofD, splice, St.setObj, fillV, c24_k6, lenT, lenV]
    refine wround ?_
    simp -implicitDefEqProofs [body_eq, w_skip, w_ops, w_seq, w_cond, w_block, w_exit, w_ret, q_then_n, q_then_e, q_then_r, q_blk_n, q_blk_e, q_blk_r, q_ops, q_cont, q_end_n, q_end_r, q_end_e, q_loop_n, q_loop_e, q_loop_r, i_nil, i_p, i_alloc, i_box, i_store, i_copy, i_clear, i_make, i_call, i_callv, i_when, t_nil, t_p, t_call, t_alloc, t_box, t_store, t_copy, t_clear, t_make, q_tcont, gsel, List.cons_append, List.nil_append, evalP, evalE, Opd.ev, Env.get, Env.set, Env.pick, putE, initEnv, evalBin, intBin, evalUn, evalConv, goneAll, goneOne, retV, resAll, Res.ev, tupOf, byVals, byValsN, bv_d, bv_da, bv_fl, bv_tl, bn_d, bn_da, bn_fl, bn_tl, cx, Dn.newObj, St.place, St.push, St.spot, St.empty, cell_d, cell_da, cell_agg, cell_ref, cell_sl, cell_fl, cell_tl, cell_map, cell_fn, cell_ifc, loadAt, faddrV, partOf, extractV, mkAgg, ofD, splice, St.setObj, fillV, c24_l5, c24_k4, c24_k0]

end Go.Proofs.Ytjkedjjahjlmfaa.T
