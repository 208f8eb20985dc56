import Derived.Test.YtjkedjjahjlmfaaB4
namespace Go.Proofs.Ytjkedjjahjlmfaa.T
open Go.Dn
set_option linter.unusedSimpArgs false
set_option linter.unusedVariables false

/-- A digest's cells. -/
def hd (h : List UInt8) : List D := h.map fun b => .int .u8 b.toNat
theorem hd_len (h : List UInt8) : (hd h).length = h.length := by simp [hd]
theorem hd_rows : ∀ (h : List UInt8), rowsOf 1 h.length (hd h) = byteRows h
  | [] => rfl
  | b :: r => by
    have ih := hd_rows r
    simp only [hd, byteRows, List.map_cons, List.length_cons, rowsOf, List.take_succ_cons, List.take_zero, List.drop_succ_cons, List.drop_zero] at ih ⊢
    rw [ih]
theorem ofD_hd (h : List UInt8) : ofD ((hd h).map V.d) = some (hd h) := ofD_map _

theorem s_Hash {σ : St} {r : Nat} {v : V} {l : List UInt8} (h : OutAt σ r l v) (hl : l.length ≤ 1099511610000) (t : List UInt8) (ht0 : t.length = 32) :
    Dn.Call Γ cx .raw 19 [.ref r 0, .da (hd t)] σ fun _ σ' => ∃ v', Put σ r v (l ++ t) σ' v' := by
  refine Dn.Call.body (fc := c19) rfl ?_
  simp -implicitDefEqProofs [body_eq, w_skip, w_ops, w_seq, w_cond, w_block, w_exit, w_ret, q_then_n, q_then_e, q_then_r, q_blk_n, q_blk_e, q_blk_r, q_ops, q_cont, q_end_n, q_end_r, q_end_e, q_loop_n, q_loop_e, q_loop_r, i_nil, i_p, i_alloc, i_box, i_store, i_copy, i_clear, i_make, i_call, i_callv, i_when, t_nil, t_p, t_call, t_alloc, t_box, t_store, t_copy, t_clear, t_make, q_tcont, gsel, List.cons_append, List.nil_append, evalP, evalE, Opd.ev, Env.get, Env.set, Env.pick, putE, initEnv, evalBin, intBin, evalUn, evalConv, goneAll, goneOne, retV, resAll, Res.ev, tupOf, byVals, byValsN, bv_d, bv_da, bv_fl, bv_tl, bn_d, bn_da, bn_fl, bn_tl, cx, Dn.newObj, St.place, St.push, St.spot, St.empty, cell_d, cell_da, cell_agg, cell_ref, cell_sl, cell_fl, cell_tl, cell_map, cell_fn, cell_ifc, loadAt, faddrV, partOf, extractV, mkAgg, ofD, splice, St.setObj, fillV, c19, c19_k1, c19_k0, eqV, V.isNil, Opd.isC]
  have hlt : r < σ.objs.length := (List.getElem?_eq_some_iff.1 h.obj).1
  obtain ⟨σ1, hσ1⟩ : ∃ s : St, (⟨σ.objs ++ [.cells ((hd t).map V.d)], σ.toks⟩ : St) = s := ⟨_, rfl⟩
  rw [hσ1]
  have g1 : σ1.objs[r]? = some (.cells [v]) := by rw [← hσ1]; simp [List.getElem?_append_left hlt, h.obj]
  have g2 : σ1.objs[σ.objs.length]? = some (.cells ((hd t).map V.d)) := by rw [← hσ1]; simp
  have g3 : σ1.toks = σ.toks := by rw [← hσ1]
  have f1 : Fr [r] σ σ1 := ⟨by rw [← hσ1]; simp, fun q _ hq => by rw [← hσ1]; simp [List.getElem?_append_left hq]⟩
  refine w_drw (fun _ => .val) [3] (by decide +kernel) ?_
  have hrl : (hd t).length = 32 := by rw [hd_len, ht0]
  simp -implicitDefEqProofs [body_eq, w_skip, w_ops, w_seq, w_cond, w_block, w_exit, w_ret, q_then_n, q_then_e, q_then_r, q_blk_n, q_blk_e, q_blk_r, q_ops, q_cont, q_end_n, q_end_r, q_end_e, q_loop_n, q_loop_e, q_loop_r, i_nil, i_p, i_alloc, i_box, i_store, i_copy, i_clear, i_make, i_call, i_callv, i_when, t_nil, t_p, t_call, t_alloc, t_box, t_store, t_copy, t_clear, t_make, q_tcont, gsel, List.cons_append, List.nil_append, evalP, evalE, Opd.ev, Env.get, Env.set, Env.pick, putE, initEnv, evalBin, intBin, evalUn, evalConv, goneAll, goneOne, retV, resAll, Res.ev, tupOf, byVals, byValsN, bv_d, bv_da, bv_fl, bv_tl, bn_d, bn_da, bn_fl, bn_tl, cx, Dn.newObj, St.place, St.push, St.spot, St.empty, cell_d, cell_da, cell_agg, cell_ref, cell_sl, cell_fl, cell_tl, cell_map, cell_fn, cell_ifc, loadAt, faddrV, partOf, extractV, mkAgg, ofD, splice, St.setObj, fillV, nilCheckV, room_at (m := 1) g1, room_at (m := 1) g2, sliceArrV, boundV, hrl]
  obtain ⟨v1, σ2, hap, happ, ho, ht, _⟩ := ((h.app.toks g3).toks (room_toks σ1 1)).push (bytes := 1) (by decide) (byteRows_fit _) (ys := byteRows t) (byteRows_fit _) (by simp [byteRows_len]; omega) (by simp [byteRows_len]; omega)
  rw [← byteRows_app] at happ
  refine t_app_f (v := v1) (s := σ2) ?_ ?_
  · have hr : V.rows (σ1.room 1) (.sl σ.objs.length 0 32 1) = some (byteRows t) := by
      simp only [V.rows, room_at (m := 1) g2]
      have : (List.take (32 * 1) (List.drop 0 ((hd t).map V.d))) = (hd t).map V.d := List.take_of_length_le (by simp [hrl])
      rw [this, ofD_hd]
      simp only
      rw [← ht0, hd_rows]
    simp -implicitDefEqProofs [body_eq, w_skip, w_ops, w_seq, w_cond, w_block, w_exit, w_ret, q_then_n, q_then_e, q_then_r, q_blk_n, q_blk_e, q_blk_r, q_ops, q_cont, q_end_n, q_end_r, q_end_e, q_loop_n, q_loop_e, q_loop_r, i_nil, i_p, i_alloc, i_box, i_store, i_copy, i_clear, i_make, i_call, i_callv, i_when, t_nil, t_p, t_call, t_alloc, t_box, t_store, t_copy, t_clear, t_make, q_tcont, gsel, List.cons_append, List.nil_append, evalP, evalE, Opd.ev, Env.get, Env.set, Env.pick, putE, initEnv, evalBin, intBin, evalUn, evalConv, goneAll, goneOne, retV, resAll, Res.ev, tupOf, byVals, byValsN, bv_d, bv_da, bv_fl, bv_tl, bn_d, bn_da, bn_fl, bn_tl, cx, Dn.newObj, St.place, St.push, St.spot, St.empty, cell_d, cell_da, cell_agg, cell_ref, cell_sl, cell_fl, cell_tl, cell_map, cell_fn, cell_ifc, loadAt, faddrV, partOf, extractV, mkAgg, ofD, splice, St.setObj, fillV, hr]
    exact hap _
  have ho1 : σ2.objs[r]? = some (.cells [v]) := by rw [ho]; exact room_at g1
  simp -implicitDefEqProofs [body_eq, w_skip, w_ops, w_seq, w_cond, w_block, w_exit, w_ret, q_then_n, q_then_e, q_then_r, q_blk_n, q_blk_e, q_blk_r, q_ops, q_cont, q_end_n, q_end_r, q_end_e, q_loop_n, q_loop_e, q_loop_r, i_nil, i_p, i_alloc, i_box, i_store, i_copy, i_clear, i_make, i_call, i_callv, i_when, t_nil, t_p, t_call, t_alloc, t_box, t_store, t_copy, t_clear, t_make, q_tcont, gsel, List.cons_append, List.nil_append, evalP, evalE, Opd.ev, Env.get, Env.set, Env.pick, putE, initEnv, evalBin, intBin, evalUn, evalConv, goneAll, goneOne, retV, resAll, Res.ev, tupOf, byVals, byValsN, bv_d, bv_da, bv_fl, bv_tl, bn_d, bn_da, bn_fl, bn_tl, cx, Dn.newObj, St.place, St.push, St.spot, St.empty, cell_d, cell_da, cell_agg, cell_ref, cell_sl, cell_fl, cell_tl, cell_map, cell_fn, cell_ifc, loadAt, faddrV, partOf, extractV, mkAgg, ofD, splice, St.setObj, fillV, nilCheckV, ho1, happ.lv.cells]
  have hp := Put.of (m := 1) g1 happ ho (by rw [show (σ1.room 1).toks = σ1.toks from rfl] at ht; exact ht)
  exact ⟨v1, hp.out, f1.trans hp.fr, by rw [← g3]; exact hp.tk⟩

/-! the document's answer -/

/-- A list that was made, of its own. -/
structure Own (σ σ' : St) (v : V) (l : List UInt8) : Prop where
  app : App σ' 1 v (byteRows l)
  fr : Fr [] σ σ'
  tk : Toks σ.toks σ'.toks none (own v)

def InvRNum (σ : St) (n : Int) (size : Nat) (m : Nat) (e : Env) (σ' : St) : Prop := ∃ (i : Nat) (v' : V), e = [(0, U (n / 2 ^ (8 * i))), (1, I size), (5, v'), (6, I i)] ∧ i ≤ size ∧ m = size - i ∧ Own σ σ' v' (low n i)

theorem tdiv_nonneg {a b : Int} (ha : 0 ≤ a) : a.tdiv b = a / b := Int.tdiv_eq_ediv_of_nonneg ha
theorem tmod_nonneg {a b : Int} (ha : 0 ≤ a) : a.tmod b = a % b := Int.tmod_eq_emod_of_nonneg ha

theorem toks_own {l l' l'' : List Nat} {o o' : Option Nat} (h : Toks l l' none o) (h' : Toks l' l'' o o') : Toks l l'' none o' := h.trans h'

theorem s_rNum (σ : St) (n : Int) (hn : 0 ≤ n) (hn' : n ≤ 18446744073709551615) (size : Int) :
    Dn.Call Γ cx .raw 14 [U n, I size] σ fun v σ' => Own σ σ' v (numB n size) := by
  refine Dn.Call.body (fc := c14) rfl ?_
  by_cases hs : sized size = true
  rotate_left
  · have h1 : ¬ size = 1 ∧ ¬ size = 2 ∧ ¬ size = 4 ∧ ¬ size = 8 := by simp [sized] at hs; omega
    simp -implicitDefEqProofs [body_eq, w_skip, w_ops, w_seq, w_cond, w_block, w_exit, w_ret, q_then_n, q_then_e, q_then_r, q_blk_n, q_blk_e, q_blk_r, q_ops, q_cont, q_end_n, q_end_r, q_end_e, q_loop_n, q_loop_e, q_loop_r, i_nil, i_p, i_alloc, i_box, i_store, i_copy, i_clear, i_make, i_call, i_callv, i_when, t_nil, t_p, t_call, t_alloc, t_box, t_store, t_copy, t_clear, t_make, q_tcont, gsel, List.cons_append, List.nil_append, evalP, evalE, Opd.ev, Env.get, Env.set, Env.pick, putE, initEnv, evalBin, intBin, evalUn, evalConv, goneAll, goneOne, retV, resAll, Res.ev, tupOf, byVals, byValsN, bv_d, bv_da, bv_fl, bv_tl, bn_d, bn_da, bn_fl, bn_tl, cx, Dn.newObj, St.place, St.push, St.spot, St.empty, cell_d, cell_da, cell_agg, cell_ref, cell_sl, cell_fl, cell_tl, cell_map, cell_fn, cell_ifc, loadAt, faddrV, partOf, extractV, mkAgg, ofD, splice, St.setObj, fillV, c14, c14_k10, c14_k9, c14_k8, h1]
    exact ⟨by simpa [numB, hs, byteRows] using App.nil, Fr.refl _ _, Toks.refl _ _⟩
  · have hz := sized_inv hs
    obtain ⟨k, hk, hk8⟩ : ∃ k : Nat, size = k ∧ k ≤ 8 := ⟨size.toNat, by omega, by omega⟩
    subst hk
    have fin : Dn.wcode (Dn.Call Γ cx) cx c14_k7 [(0, U n), (1, I k), (5, .d .nils), (20, B false)] σ (endQ .raw σ [.tmp 4] fun v σ' => Own σ σ' v (numB n k)) := by
      simp -implicitDefEqProofs [body_eq, w_skip, w_ops, w_seq, w_cond, w_block, w_exit, w_ret, q_then_n, q_then_e, q_then_r, q_blk_n, q_blk_e, q_blk_r, q_ops, q_cont, q_end_n, q_end_r, q_end_e, q_loop_n, q_loop_e, q_loop_r, i_nil, i_p, i_alloc, i_box, i_store, i_copy, i_clear, i_make, i_call, i_callv, i_when, t_nil, t_p, t_call, t_alloc, t_box, t_store, t_copy, t_clear, t_make, q_tcont, gsel, List.cons_append, List.nil_append, evalP, evalE, Opd.ev, Env.get, Env.set, Env.pick, putE, initEnv, evalBin, intBin, evalUn, evalConv, goneAll, goneOne, retV, resAll, Res.ev, tupOf, byVals, byValsN, bv_d, bv_da, bv_fl, bv_tl, bn_d, bn_da, bn_fl, bn_tl, cx, Dn.newObj, St.place, St.push, St.spot, St.empty, cell_d, cell_da, cell_agg, cell_ref, cell_sl, cell_fl, cell_tl, cell_map, cell_fn, cell_ifc, loadAt, faddrV, partOf, extractV, mkAgg, ofD, splice, St.setObj, fillV, c14_k7, c14_k6]
      refine wloopI (InvRNum σ n k) (m := k) ⟨0, _, by simp [Env.pick, Env.get], by omega, by omega, ⟨.nil, Fr.refl _ _, Toks.refl _ _⟩⟩ ?_
      rintro m e σ' ⟨i, v', rfl, hi, rfl, hp⟩
      simp -implicitDefEqProofs [body_eq, w_skip, w_ops, w_seq, w_cond, w_block, w_exit, w_ret, q_then_n, q_then_e, q_then_r, q_blk_n, q_blk_e, q_blk_r, q_ops, q_cont, q_end_n, q_end_r, q_end_e, q_loop_n, q_loop_e, q_loop_r, i_nil, i_p, i_alloc, i_box, i_store, i_copy, i_clear, i_make, i_call, i_callv, i_when, t_nil, t_p, t_call, t_alloc, t_box, t_store, t_copy, t_clear, t_make, q_tcont, gsel, List.cons_append, List.nil_append, evalP, evalE, Opd.ev, Env.get, Env.set, Env.pick, putE, initEnv, evalBin, intBin, evalUn, evalConv, goneAll, goneOne, retV, resAll, Res.ev, tupOf, byVals, byValsN, bv_d, bv_da, bv_fl, bv_tl, bn_d, bn_da, bn_fl, bn_tl, cx, Dn.newObj, St.place, St.push, St.spot, St.empty, cell_d, cell_da, cell_agg, cell_ref, cell_sl, cell_fl, cell_tl, cell_map, cell_fn, cell_ifc, loadAt, faddrV, partOf, extractV, mkAgg, ofD, splice, St.setObj, fillV, c14_l5, c14_k4]
      by_cases hik : i < k
      rotate_left
      · obtain rfl : i = k := by omega
        simp -implicitDefEqProofs [body_eq, w_skip, w_ops, w_seq, w_cond, w_block, w_exit, w_ret, q_then_n, q_then_e, q_then_r, q_blk_n, q_blk_e, q_blk_r, q_ops, q_cont, q_end_n, q_end_r, q_end_e, q_loop_n, q_loop_e, q_loop_r, i_nil, i_p, i_alloc, i_box, i_store, i_copy, i_clear, i_make, i_call, i_callv, i_when, t_nil, t_p, t_call, t_alloc, t_box, t_store, t_copy, t_clear, t_make, q_tcont, gsel, List.cons_append, List.nil_append, evalP, evalE, Opd.ev, Env.get, Env.set, Env.pick, putE, initEnv, evalBin, intBin, evalUn, evalConv, goneAll, goneOne, retV, resAll, Res.ev, tupOf, byVals, byValsN, bv_d, bv_da, bv_fl, bv_tl, bn_d, bn_da, bn_fl, bn_tl, cx, Dn.newObj, St.place, St.push, St.spot, St.empty, cell_d, cell_da, cell_agg, cell_ref, cell_sl, cell_fl, cell_tl, cell_map, cell_fn, cell_ifc, loadAt, faddrV, partOf, extractV, mkAgg, ofD, splice, St.setObj, fillV, c14_k0]
        simpa [numB, hs] using hp
      have hq : 0 ≤ n / 2 ^ (8 * i) := Int.ediv_nonneg hn (Int.pow_nonneg (by decide))
      have hq2 : n / 2 ^ (8 * i) ≤ n := Int.ediv_le_self _ hn
      simp -implicitDefEqProofs [body_eq, w_skip, w_ops, w_seq, w_cond, w_block, w_exit, w_ret, q_then_n, q_then_e, q_then_r, q_blk_n, q_blk_e, q_blk_r, q_ops, q_cont, q_end_n, q_end_r, q_end_e, q_loop_n, q_loop_e, q_loop_r, i_nil, i_p, i_alloc, i_box, i_store, i_copy, i_clear, i_make, i_call, i_callv, i_when, t_nil, t_p, t_call, t_alloc, t_box, t_store, t_copy, t_clear, t_make, q_tcont, gsel, List.cons_append, List.nil_append, evalP, evalE, Opd.ev, Env.get, Env.set, Env.pick, putE, initEnv, evalBin, intBin, evalUn, evalConv, goneAll, goneOne, retV, resAll, Res.ev, tupOf, byVals, byValsN, bv_d, bv_da, bv_fl, bv_tl, bn_d, bn_da, bn_fl, bn_tl, cx, Dn.newObj, St.place, St.push, St.spot, St.empty, cell_d, cell_da, cell_agg, cell_ref, cell_sl, cell_fl, cell_tl, cell_map, cell_fn, cell_ifc, loadAt, faddrV, partOf, extractV, mkAgg, ofD, splice, St.setObj, fillV, hik, c14_k3, tmod_nonneg hq, wrap_u8, repl, rowsOf]
      obtain ⟨v1, σ1, hap, happ, ho, ht, _⟩ := hp.app.push (bytes := 1) (by decide) (byteRows_fit _) (ys := byteRows [byteAt n i]) (byteRows_fit _) (by simp [byteRows_len, low_len]; omega) (by simp [byteRows_len, low_len]; omega)
      rw [← byteRows_app, ← low_succ] at happ
      refine i_app_f (v := v1) (s := σ1) ?_ ?_
      · simp -implicitDefEqProofs [body_eq, w_skip, w_ops, w_seq, w_cond, w_block, w_exit, w_ret, q_then_n, q_then_e, q_then_r, q_blk_n, q_blk_e, q_blk_r, q_ops, q_cont, q_end_n, q_end_r, q_end_e, q_loop_n, q_loop_e, q_loop_r, i_nil, i_p, i_alloc, i_box, i_store, i_copy, i_clear, i_make, i_call, i_callv, i_when, t_nil, t_p, t_call, t_alloc, t_box, t_store, t_copy, t_clear, t_make, q_tcont, gsel, List.cons_append, List.nil_append, evalP, evalE, Opd.ev, Env.get, Env.set, Env.pick, putE, initEnv, evalBin, intBin, evalUn, evalConv, goneAll, goneOne, retV, resAll, Res.ev, tupOf, byVals, byValsN, bv_d, bv_da, bv_fl, bv_tl, bn_d, bn_da, bn_fl, bn_tl, cx, Dn.newObj, St.place, St.push, St.spot, St.empty, cell_d, cell_da, cell_agg, cell_ref, cell_sl, cell_fl, cell_tl, cell_map, cell_fn, cell_ifc, loadAt, faddrV, partOf, extractV, mkAgg, ofD, splice, St.setObj, fillV, V.rows]
        rw [← hap none]
        simp [byteRows, byteAt_nat]
      have e3 : (n / 2 ^ (8 * i)).tdiv 256 = n / 2 ^ (8 * (i + 1)) := by
        rw [tdiv_nonneg hq, Int.ediv_ediv_of_nonneg (Int.pow_nonneg (by decide)), show 8 * (i + 1) = 8 * i + 8 by omega, Int.pow_add]
        rfl
      have hq3 : 0 ≤ n / 2 ^ (8 * (i + 1)) := Int.ediv_nonneg hn (Int.pow_nonneg (by decide))
      have hq4 : n / 2 ^ (8 * (i + 1)) ≤ n := Int.ediv_le_self _ hn
      simp -implicitDefEqProofs [body_eq, w_skip, w_ops, w_seq, w_cond, w_block, w_exit, w_ret, q_then_n, q_then_e, q_then_r, q_blk_n, q_blk_e, q_blk_r, q_ops, q_cont, q_end_n, q_end_r, q_end_e, q_loop_n, q_loop_e, q_loop_r, i_nil, i_p, i_alloc, i_box, i_store, i_copy, i_clear, i_make, i_call, i_callv, i_when, t_nil, t_p, t_call, t_alloc, t_box, t_store, t_copy, t_clear, t_make, q_tcont, gsel, List.cons_append, List.nil_append, evalP, evalE, Opd.ev, Env.get, Env.set, Env.pick, putE, initEnv, evalBin, intBin, evalUn, evalConv, goneAll, goneOne, retV, resAll, Res.ev, tupOf, byVals, byValsN, bv_d, bv_da, bv_fl, bv_tl, bn_d, bn_da, bn_fl, bn_tl, cx, Dn.newObj, St.place, St.push, St.spot, St.empty, cell_d, cell_da, cell_agg, cell_ref, cell_sl, cell_fl, cell_tl, cell_map, cell_fn, cell_ifc, loadAt, faddrV, partOf, extractV, mkAgg, ofD, splice, St.setObj, fillV, c14_k2, c14_k1, e3, wrap_u64 (n := n / 2 ^ (8 * (i + 1))) (by omega) (by omega), wrap_i64 (n := (i : Int) + 1) (by omega) (by omega)]
      exact ⟨k - (i + 1), by omega, i + 1, v1, rfl, by omega, rfl, happ, hp.fr.trans ⟨by rw [ho]; exact Nat.le_refl _, fun q _ _ => by rw [ho]⟩, toks_own hp.tk ht⟩
    rcases hz with h | h | h | h <;> (rw [h] at fin ⊢; simp -implicitDefEqProofs [body_eq, w_skip, w_ops, w_seq, w_cond, w_block, w_exit, w_ret, q_then_n, q_then_e, q_then_r, q_blk_n, q_blk_e, q_blk_r, q_ops, q_cont, q_end_n, q_end_r, q_end_e, q_loop_n, q_loop_e, q_loop_r, i_nil, i_p, i_alloc, i_box, i_store, i_copy, i_clear, i_make, i_call, i_callv, i_when, t_nil, t_p, t_call, t_alloc, t_box, t_store, t_copy, t_clear, t_make, q_tcont, gsel, List.cons_append, List.nil_append, evalP, evalE, Opd.ev, Env.get, Env.set, Env.pick, putE, initEnv, evalBin, intBin, evalUn, evalConv, goneAll, goneOne, retV, resAll, Res.ev, tupOf, byVals, byValsN, bv_d, bv_da, bv_fl, bv_tl, bn_d, bn_da, bn_fl, bn_tl, cx, Dn.newObj, St.place, St.push, St.spot, St.empty, cell_d, cell_da, cell_agg, cell_ref, cell_sl, cell_fl, cell_tl, cell_map, cell_fn, cell_ifc, loadAt, faddrV, partOf, extractV, mkAgg, ofD, splice, St.setObj, fillV, c14, c14_k10, c14_k9, c14_k8]; exact fin)

end Go.Proofs.Ytjkedjjahjlmfaa.T
