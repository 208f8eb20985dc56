import Derived.Test.YtjkedjjahjlmfaaB8
namespace Go.Proofs.Ytjkedjjahjlmfaa.T
open Go.Dn
set_option linter.unusedSimpArgs false
set_option linter.unusedVariables false

theorem Got.ex {σ : St} {r : Nat} {s : Rd} {v : V} (h : InAt σ r s v) (s' : Rd) : ∃ σ', Got σ r s' σ' := by
  have hl : r < σ.objs.length := (List.getElem?_eq_some_iff.1 h.obj).1
  exact ⟨⟨σ.objs.set r (.cells [.d (.list (byteRows s'.1)), B s'.2]), σ.toks⟩, ⟨_, by simp [hl], .list _, fun a t st z e => by cases e⟩, Fr.set _ _ _, rfl⟩

/-- A new reader. -/
structure New (σ : St) (b : List UInt8) (w : V) (σ' : St) : Prop where
  ref : ∃ r v, w = .ref r 0 ∧ σ.objs.length ≤ r ∧ InAt σ' r (b, false) v
  fr : Fr [] σ σ'
  tk : σ'.toks = σ.toks

theorem s_Read {v : V} {b : List UInt8} (σ : St) (h : LV v (byteRows b)) (hl : b.length ≤ 1099511627776) :
    Dn.Call Γ cx .raw 22 [v] σ fun w σ' => New σ b w σ' := by
  refine Dn.Call.body (fc := c22) rfl ?_
  obtain ⟨d1, d2, ⟨x, dx⟩, d4, d5⟩ := h.dv σ
  simp -implicitDefEqProofs [body_eq, w_skip, w_ops, w_seq, w_cond, w_block, w_exit, w_ret, q_then_n, q_then_e, q_then_r, q_blk_n, q_blk_e, q_blk_r, q_ops, q_cont, q_end_n, q_end_r, q_end_e, q_loop_n, q_loop_e, q_loop_r, i_nil, i_p, i_alloc, i_box, i_store, i_copy, i_clear, i_make, i_call, i_callv, i_when, t_nil, t_p, t_call, t_alloc, t_box, t_store, t_copy, t_clear, t_make, q_tcont, gsel, List.cons_append, List.nil_append, evalP, evalE, Opd.ev, Env.get, Env.set, Env.pick, putE, initEnv, evalBin, intBin, evalUn, evalConv, goneAll, goneOne, retV, resAll, Res.ev, tupOf, byVals, byValsN, bv_d, bv_da, bv_fl, bv_tl, bn_d, bn_da, bn_fl, bn_tl, cx, Dn.newObj, St.place, St.push, St.spot, St.empty, cell_d, cell_da, cell_agg, cell_ref, cell_sl, cell_fl, cell_tl, cell_map, cell_fn, cell_ifc, loadAt, faddrV, partOf, extractV, mkAgg, ofD, splice, St.setObj, fillV, c22, c22_k0]
  rw [dx] at d1 d2
  refine use_fn (ds := [.d x]) (by simp [byVals, d1]) (s_CloneB d2 hl) (by simp [V.pure, V.flatv, h.borrows]) ?_
  simp -implicitDefEqProofs [body_eq, w_skip, w_ops, w_seq, w_cond, w_block, w_exit, w_ret, q_then_n, q_then_e, q_then_r, q_blk_n, q_blk_e, q_blk_r, q_ops, q_cont, q_end_n, q_end_r, q_end_e, q_loop_n, q_loop_e, q_loop_r, i_nil, i_p, i_alloc, i_box, i_store, i_copy, i_clear, i_make, i_call, i_callv, i_when, t_nil, t_p, t_call, t_alloc, t_box, t_store, t_copy, t_clear, t_make, q_tcont, gsel, List.cons_append, List.nil_append, evalP, evalE, Opd.ev, Env.get, Env.set, Env.pick, putE, initEnv, evalBin, intBin, evalUn, evalConv, goneAll, goneOne, retV, resAll, Res.ev, tupOf, byVals, byValsN, bv_d, bv_da, bv_fl, bv_tl, bn_d, bn_da, bn_fl, bn_tl, cx, Dn.newObj, St.place, St.push, St.spot, St.empty, cell_d, cell_da, cell_agg, cell_ref, cell_sl, cell_fl, cell_tl, cell_map, cell_fn, cell_ifc, loadAt, faddrV, partOf, extractV, mkAgg, ofD, splice, St.setObj, fillV]
  exact ⟨⟨_, _, rfl, Nat.le_refl _, by simp, d2, fun a t st z e => by cases e⟩, ⟨by simp, fun q _ hq => by simp [List.getElem?_append_left hq]⟩, rfl⟩

def hashS (s : Rd) : List UInt8 × Rd := (((nextS s 32).1 ++ List.replicate 32 0).take 32, (nextS s 32).2)

theorem nextS_len' (s : Rd) (n : Nat) : (nextS s n).1.length ≤ n := by
  unfold nextS
  split
  · simp
  · simp only [List.length_take]; omega

theorem byteRows_hd (l : List UInt8) : (byteRows l).flatten = hd l := by
  induction l with
  | nil => rfl
  | cons a r ih => simp only [byteRows, hd, List.map_cons, List.flatten_cons] at ih ⊢; rw [ih]; rfl

theorem hash_splice {o : List UInt8} (h : o.length ≤ 32) : splice (List.replicate 32 (V.d (.int .u8 0))) 0 (((byteRows o).take 32).flatten.map V.d) = (hd ((o ++ List.replicate 32 0).take 32)).map V.d := by
  rw [List.take_of_length_le (by rw [byteRows_len]; exact h), byteRows_hd]
  have e : (o ++ List.replicate 32 0).take 32 = o ++ List.replicate (32 - o.length) 0 := by
    rw [List.take_append, List.take_of_length_le h, List.take_replicate]
    congr 2
    omega
  rw [e]
  have e2 : List.drop o.length (List.replicate 32 (V.d (.int .u8 0))) = List.replicate (32 - o.length) (V.d (.int .u8 0)) := by rw [List.drop_replicate]
  simp only [splice, List.take_zero, List.nil_append, List.length_map, hd_len, Nat.zero_add, e2]
  simp [hd, -List.reduceReplicate]

theorem s_gHash {σ : St} {r : Nat} {s : Rd} {v : V} (h : InAt σ r s v) (hl : s.1.length ≤ 1099511627776) :
    Dn.Call Γ cx .raw 30 [.ref r 0] σ fun w σ' => w = .da (hd (hashS s).1) ∧ Got σ r (hashS s).2 σ' := by
  refine Dn.Call.body (fc := c30) rfl ?_
  have hlt : r < σ.objs.length := (List.getElem?_eq_some_iff.1 h.obj).1
  simp -implicitDefEqProofs [body_eq, w_skip, w_ops, w_seq, w_cond, w_block, w_exit, w_ret, q_then_n, q_then_e, q_then_r, q_blk_n, q_blk_e, q_blk_r, q_ops, q_cont, q_end_n, q_end_r, q_end_e, q_loop_n, q_loop_e, q_loop_r, i_nil, i_p, i_alloc, i_box, i_store, i_copy, i_clear, i_make, i_call, i_callv, i_when, t_nil, t_p, t_call, t_alloc, t_box, t_store, t_copy, t_clear, t_make, q_tcont, gsel, List.cons_append, List.nil_append, evalP, evalE, Opd.ev, Env.get, Env.set, Env.pick, putE, initEnv, evalBin, intBin, evalUn, evalConv, goneAll, goneOne, retV, resAll, Res.ev, tupOf, byVals, byValsN, bv_d, bv_da, bv_fl, bv_tl, bn_d, bn_da, bn_fl, bn_tl, cx, Dn.newObj, St.place, St.push, St.spot, St.empty, cell_d, cell_da, cell_agg, cell_ref, cell_sl, cell_fl, cell_tl, cell_map, cell_fn, cell_ifc, loadAt, faddrV, partOf, extractV, mkAgg, ofD, splice, St.setObj, fillV, -List.reduceReplicate, c30, c30_k2, c30_k1]
  obtain ⟨σ1, hσ1⟩ : ∃ s : St, (⟨σ.objs ++ [.cells (List.replicate 32 (.d (.int .u8 0))), .cells (List.replicate 32 (.d (.int .u8 0)))], σ.toks⟩ : St) = s := ⟨_, rfl⟩
  rw [hσ1]
  have gr : σ1.objs[r]? = some (.cells [v, B s.2]) := by rw [← hσ1]; simp [List.getElem?_append_left hlt, h.obj]
  have g2 : σ1.objs[σ.objs.length]? = some (.cells (List.replicate 32 (.d (.int .u8 0)))) := by rw [← hσ1]; simp [-List.reduceReplicate]
  have g3 : σ1.objs[σ.objs.length + 1]? = some (.cells (List.replicate 32 (.d (.int .u8 0)))) := by rw [← hσ1]; simp [-List.reduceReplicate]
  have gl : σ1.objs.length = σ.objs.length + 2 := by rw [← hσ1]; simp
  have gt : σ1.toks = σ.toks := by rw [← hσ1]
  have gf : Fr [r] σ σ1 := ⟨by omega, fun q _ hq => by rw [← hσ1]; simp [List.getElem?_append_left hq]⟩
  have hin : InAt σ1 r s v := ⟨gr, h.lv, h.tl⟩
  refine w_drw (fun _ => .raw) [3] (by decide +kernel) ?_
  simp -implicitDefEqProofs [body_eq, w_skip, w_ops, w_seq, w_cond, w_block, w_exit, w_ret, q_then_n, q_then_e, q_then_r, q_blk_n, q_blk_e, q_blk_r, q_ops, q_cont, q_end_n, q_end_r, q_end_e, q_loop_n, q_loop_e, q_loop_r, i_nil, i_p, i_alloc, i_box, i_store, i_copy, i_clear, i_make, i_call, i_callv, i_when, t_nil, t_p, t_call, t_alloc, t_box, t_store, t_copy, t_clear, t_make, q_tcont, gsel, List.cons_append, List.nil_append, evalP, evalE, Opd.ev, Env.get, Env.set, Env.pick, putE, initEnv, evalBin, intBin, evalUn, evalConv, goneAll, goneOne, retV, resAll, Res.ev, tupOf, byVals, byValsN, bv_d, bv_da, bv_fl, bv_tl, bn_d, bn_da, bn_fl, bn_tl, cx, Dn.newObj, St.place, St.push, St.spot, St.empty, cell_d, cell_da, cell_agg, cell_ref, cell_sl, cell_fl, cell_tl, cell_map, cell_fn, cell_ifc, loadAt, faddrV, partOf, extractV, mkAgg, ofD, splice, St.setObj, fillV, -List.reduceReplicate, sliceArrV, boundV, room_at (m := 0) g3]
  refine use_rawN rfl (s_next (σ := σ1.room 0) ⟨room_at gr, h.lv, h.tl⟩ 32 hl) ?_ fun w s2 ⟨hw, hg⟩ => ⟨?_, ?_⟩
  · obtain ⟨σ', hσ'⟩ := Got.ex (σ := σ1.room 0) ⟨room_at gr, h.lv, h.tl⟩ (nextS s 32).2
    exact ⟨.d (.list (byteRows (nextS s 32).1)), σ', .list _, hσ'⟩
  · intro q hq x hx
    simp at hq
    subst hq
    simp [Env.get, dref] at hx
    subst hx
    exact (hg.fr.at_ _ (by simp; omega) (by simp [St.room]; omega))
  · have ho := nextS_len' s 32
    have hq : s2.objs[σ.objs.length + 1]? = some (.cells (List.replicate 32 (.d (.int .u8 0)))) := hg.fr.get (room_at g3) (by simp; omega)
    have hq2 : s2.objs[σ.objs.length]? = some (.cells (List.replicate 32 (.d (.int .u8 0)))) := hg.fr.get (room_at g2) (by simp; omega)
    have hfit : fitR 1 (byteRows (nextS s 32).1) = true := fitR_iff.2 (byteRows_fit _)
    have hsp : splice (List.replicate 32 (V.d (.int .u8 0))) 0 (((byteRows (nextS s 32).1).take 32).flatten.map V.d) = (hd (hashS s).1).map V.d := hash_splice ho
    have hll : σ.objs.length + 1 < s2.objs.length := (List.getElem?_eq_some_iff.1 hq).1
    have hcp : copyV s2 1 (.sl (σ.objs.length + 1) 0 32 1) (byteRows (nextS s 32).1) = some (.d (.int .i64 (min (byteRows (nextS s 32).1).length 32 : Nat)), s2.setObj (σ.objs.length + 1) (.cells ((hd (hashS s).1).map V.d))) := by
      unfold copyV
      rw [hfit]
      simp only [hq, hsp]
      simp [-List.reduceReplicate]
    have hhl : (hashS s).1.length = 32 := by simp [hashS, -List.reduceReplicate]
    have hqh : (s2.objs.set (σ.objs.length + 1) (.cells ((hd (hashS s).1).map V.d)))[σ.objs.length + 1]? = some (.cells ((hd (hashS s).1).map V.d)) := List.getElem?_set_self hll
    have hqz : (s2.objs.set (σ.objs.length + 1) (.cells ((hd (hashS s).1).map V.d)))[σ.objs.length]? = some (.cells (List.replicate 32 (.d (.int .u8 0)))) := by rw [List.getElem?_set_ne (by omega)]; exact hq2
    have hdl : (hd (hashS s).1).length = 32 := by rw [hd_len, hhl]
    have htk : List.take 32 (List.map V.d (hd (hashS s).1)) = List.map V.d (hd (hashS s).1) := List.take_of_length_le (by simp [hdl])
    have hset2 : ∀ c : Dn.Obj, ((s2.objs.set (σ.objs.length + 1) (.cells ((hd (hashS s).1).map V.d))).set σ.objs.length c)[σ.objs.length]? = some c := fun c => List.getElem?_set_self (by rw [List.length_set]; omega)
    simp -implicitDefEqProofs [body_eq, w_skip, w_ops, w_seq, w_cond, w_block, w_exit, w_ret, q_then_n, q_then_e, q_then_r, q_blk_n, q_blk_e, q_blk_r, q_ops, q_cont, q_end_n, q_end_r, q_end_e, q_loop_n, q_loop_e, q_loop_r, i_nil, i_p, i_alloc, i_box, i_store, i_copy, i_clear, i_make, i_call, i_callv, i_when, t_nil, t_p, t_call, t_alloc, t_box, t_store, t_copy, t_clear, t_make, q_tcont, gsel, List.cons_append, List.nil_append, evalP, evalE, Opd.ev, Env.get, Env.set, Env.pick, putE, initEnv, evalBin, intBin, evalUn, evalConv, goneAll, goneOne, retV, resAll, Res.ev, tupOf, byVals, byValsN, bv_d, bv_da, bv_fl, bv_tl, bn_d, bn_da, bn_fl, bn_tl, cx, Dn.newObj, St.place, St.push, St.spot, St.empty, cell_d, cell_da, cell_agg, cell_ref, cell_sl, cell_fl, cell_tl, cell_map, cell_fn, cell_ifc, loadAt, faddrV, partOf, extractV, mkAgg, ofD, splice, St.setObj, fillV, -List.reduceReplicate, hw.rows s2, hcp, c30_k0, St.setObj, hqh, hqz, hdl, htk, ofD_hd, hset2]
    obtain ⟨⟨v', hv'⟩, hfr, htk'⟩ := hg
    refine ⟨⟨v', ?_, hv'.lv, hv'.tl⟩, ?_, ?_⟩
    · simp only
      rw [List.getElem?_set_ne (by omega), List.getElem?_set_ne (by omega)]
      exact hv'.obj
    · refine ⟨?_, fun q hq hlq => ?_⟩
      · have := hfr.len
        simp [St.room] at this ⊢
        omega
      · simp only
        rw [List.getElem?_set_ne (by omega), List.getElem?_set_ne (by omega), hfr.at_ q hq (by simp [St.room]; omega), ← gf.at_ q hq hlq]
        simp [St.room]
    · rw [show σ.toks = σ1.toks from gt.symm]
      exact htk'

theorem s_Left {σ : St} {r : Nat} {s : Rd} {v : V} (h : InAt σ r s v) : Dn.Call Γ cx .raw 31 [.ref r 0] σ fun w σ' => w = I s.1.length ∧ σ' = σ := by
  refine Dn.Call.body (fc := c31) rfl ?_
  have hlen := h.lv.len σ
  rw [byteRows_len] at hlen
  simp -implicitDefEqProofs [body_eq, w_skip, w_ops, w_seq, w_cond, w_block, w_exit, w_ret, q_then_n, q_then_e, q_then_r, q_blk_n, q_blk_e, q_blk_r, q_ops, q_cont, q_end_n, q_end_r, q_end_e, q_loop_n, q_loop_e, q_loop_r, i_nil, i_p, i_alloc, i_box, i_store, i_copy, i_clear, i_make, i_call, i_callv, i_when, t_nil, t_p, t_call, t_alloc, t_box, t_store, t_copy, t_clear, t_make, q_tcont, gsel, List.cons_append, List.nil_append, evalP, evalE, Opd.ev, Env.get, Env.set, Env.pick, putE, initEnv, evalBin, intBin, evalUn, evalConv, goneAll, goneOne, retV, resAll, Res.ev, tupOf, byVals, byValsN, bv_d, bv_da, bv_fl, bv_tl, bn_d, bn_da, bn_fl, bn_tl, cx, Dn.newObj, St.place, St.push, St.spot, St.empty, cell_d, cell_da, cell_agg, cell_ref, cell_sl, cell_fl, cell_tl, cell_map, cell_fn, cell_ifc, loadAt, faddrV, partOf, extractV, mkAgg, ofD, splice, St.setObj, fillV, c31, c31_k2, c31_k1, c31_k0, eqV, V.isNil, Opd.isC, nilCheckV, h.obj, hlen]
theorem s_LeftNil (σ : St) : Dn.Call Γ cx .raw 31 [.d .nilp] σ fun w σ' => w = I 0 ∧ σ' = σ := by
  refine Dn.Call.body (fc := c31) rfl ?_
  simp -implicitDefEqProofs [body_eq, w_skip, w_ops, w_seq, w_cond, w_block, w_exit, w_ret, q_then_n, q_then_e, q_then_r, q_blk_n, q_blk_e, q_blk_r, q_ops, q_cont, q_end_n, q_end_r, q_end_e, q_loop_n, q_loop_e, q_loop_r, i_nil, i_p, i_alloc, i_box, i_store, i_copy, i_clear, i_make, i_call, i_callv, i_when, t_nil, t_p, t_call, t_alloc, t_box, t_store, t_copy, t_clear, t_make, q_tcont, gsel, List.cons_append, List.nil_append, evalP, evalE, Opd.ev, Env.get, Env.set, Env.pick, putE, initEnv, evalBin, intBin, evalUn, evalConv, goneAll, goneOne, retV, resAll, Res.ev, tupOf, byVals, byValsN, bv_d, bv_da, bv_fl, bv_tl, bn_d, bn_da, bn_fl, bn_tl, cx, Dn.newObj, St.place, St.push, St.spot, St.empty, cell_d, cell_da, cell_agg, cell_ref, cell_sl, cell_fl, cell_tl, cell_map, cell_fn, cell_ifc, loadAt, faddrV, partOf, extractV, mkAgg, ofD, splice, St.setObj, fillV, c31, c31_k2, c31_k1, c31_k0, eqV, V.isNil, Opd.isC]

def endV (s : Rd) : V := if s.2 || decide (0 < s.1.length) then .d (.iface 81 (.int .i64 2)) else .d .nili
theorem s_End {σ : St} {r : Nat} {s : Rd} {v : V} (h : InAt σ r s v) : Dn.Call Γ cx .raw 32 [.ref r 0] σ fun w σ' => w = endV s ∧ σ' = σ := by
  refine Dn.Call.body (fc := c32) rfl ?_
  have hlen := h.lv.len σ
  rw [byteRows_len] at hlen
  obtain ⟨b, bad⟩ := s
  have hob := h.obj
  simp only at hob hlen
  cases bad with
  | true => simp -implicitDefEqProofs [body_eq, w_skip, w_ops, w_seq, w_cond, w_block, w_exit, w_ret, q_then_n, q_then_e, q_then_r, q_blk_n, q_blk_e, q_blk_r, q_ops, q_cont, q_end_n, q_end_r, q_end_e, q_loop_n, q_loop_e, q_loop_r, i_nil, i_p, i_alloc, i_box, i_store, i_copy, i_clear, i_make, i_call, i_callv, i_when, t_nil, t_p, t_call, t_alloc, t_box, t_store, t_copy, t_clear, t_make, q_tcont, gsel, List.cons_append, List.nil_append, evalP, evalE, Opd.ev, Env.get, Env.set, Env.pick, putE, initEnv, evalBin, intBin, evalUn, evalConv, goneAll, goneOne, retV, resAll, Res.ev, tupOf, byVals, byValsN, bv_d, bv_da, bv_fl, bv_tl, bn_d, bn_da, bn_fl, bn_tl, cx, Dn.newObj, St.place, St.push, St.spot, St.empty, cell_d, cell_da, cell_agg, cell_ref, cell_sl, cell_fl, cell_tl, cell_map, cell_fn, cell_ifc, loadAt, faddrV, partOf, extractV, mkAgg, ofD, splice, St.setObj, fillV, c32, c32_k1, c32_k0, eqV, V.isNil, Opd.isC, nilCheckV, mkifV, hob, endV]
  | false =>
    by_cases h0 : 0 < b.length
    · have h0' : (0 : Int) < b.length := by omega
      simp -implicitDefEqProofs [body_eq, w_skip, w_ops, w_seq, w_cond, w_block, w_exit, w_ret, q_then_n, q_then_e, q_then_r, q_blk_n, q_blk_e, q_blk_r, q_ops, q_cont, q_end_n, q_end_r, q_end_e, q_loop_n, q_loop_e, q_loop_r, i_nil, i_p, i_alloc, i_box, i_store, i_copy, i_clear, i_make, i_call, i_callv, i_when, t_nil, t_p, t_call, t_alloc, t_box, t_store, t_copy, t_clear, t_make, q_tcont, gsel, List.cons_append, List.nil_append, evalP, evalE, Opd.ev, Env.get, Env.set, Env.pick, putE, initEnv, evalBin, intBin, evalUn, evalConv, goneAll, goneOne, retV, resAll, Res.ev, tupOf, byVals, byValsN, bv_d, bv_da, bv_fl, bv_tl, bn_d, bn_da, bn_fl, bn_tl, cx, Dn.newObj, St.place, St.push, St.spot, St.empty, cell_d, cell_da, cell_agg, cell_ref, cell_sl, cell_fl, cell_tl, cell_map, cell_fn, cell_ifc, loadAt, faddrV, partOf, extractV, mkAgg, ofD, splice, St.setObj, fillV, c32, c32_k1, c32_k0, eqV, V.isNil, Opd.isC, nilCheckV, mkifV, hob, hlen, endV, h0, h0']
    · have h0' : b.length = 0 := by omega
      simp -implicitDefEqProofs [body_eq, w_skip, w_ops, w_seq, w_cond, w_block, w_exit, w_ret, q_then_n, q_then_e, q_then_r, q_blk_n, q_blk_e, q_blk_r, q_ops, q_cont, q_end_n, q_end_r, q_end_e, q_loop_n, q_loop_e, q_loop_r, i_nil, i_p, i_alloc, i_box, i_store, i_copy, i_clear, i_make, i_call, i_callv, i_when, t_nil, t_p, t_call, t_alloc, t_box, t_store, t_copy, t_clear, t_make, q_tcont, gsel, List.cons_append, List.nil_append, evalP, evalE, Opd.ev, Env.get, Env.set, Env.pick, putE, initEnv, evalBin, intBin, evalUn, evalConv, goneAll, goneOne, retV, resAll, Res.ev, tupOf, byVals, byValsN, bv_d, bv_da, bv_fl, bv_tl, bn_d, bn_da, bn_fl, bn_tl, cx, Dn.newObj, St.place, St.push, St.spot, St.empty, cell_d, cell_da, cell_agg, cell_ref, cell_sl, cell_fl, cell_tl, cell_map, cell_fn, cell_ifc, loadAt, faddrV, partOf, extractV, mkAgg, ofD, splice, St.setObj, fillV, c32, c32_k1, c32_k0, eqV, V.isNil, Opd.isC, nilCheckV, mkifV, hob, hlen, endV, h0']
theorem s_EndNil (σ : St) : Dn.Call Γ cx .raw 32 [.d .nilp] σ fun w σ' => w = .d (.iface 81 (.int .i64 2)) ∧ σ' = σ := by
  refine Dn.Call.body (fc := c32) rfl ?_
  simp -implicitDefEqProofs [body_eq, w_skip, w_ops, w_seq, w_cond, w_block, w_exit, w_ret, q_then_n, q_then_e, q_then_r, q_blk_n, q_blk_e, q_blk_r, q_ops, q_cont, q_end_n, q_end_r, q_end_e, q_loop_n, q_loop_e, q_loop_r, i_nil, i_p, i_alloc, i_box, i_store, i_copy, i_clear, i_make, i_call, i_callv, i_when, t_nil, t_p, t_call, t_alloc, t_box, t_store, t_copy, t_clear, t_make, q_tcont, gsel, List.cons_append, List.nil_append, evalP, evalE, Opd.ev, Env.get, Env.set, Env.pick, putE, initEnv, evalBin, intBin, evalUn, evalConv, goneAll, goneOne, retV, resAll, Res.ev, tupOf, byVals, byValsN, bv_d, bv_da, bv_fl, bv_tl, bn_d, bn_da, bn_fl, bn_tl, cx, Dn.newObj, St.place, St.push, St.spot, St.empty, cell_d, cell_da, cell_agg, cell_ref, cell_sl, cell_fl, cell_tl, cell_map, cell_fn, cell_ifc, loadAt, faddrV, partOf, extractV, mkAgg, ofD, splice, St.setObj, fillV, c32, c32_k1, c32_k0, eqV, V.isNil, Opd.isC, mkifV]

end Go.Proofs.Ytjkedjjahjlmfaa.T
