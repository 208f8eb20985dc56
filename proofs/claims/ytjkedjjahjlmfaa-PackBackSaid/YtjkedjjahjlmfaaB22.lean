import Derived.Test.YtjkedjjahjlmfaaB19
namespace Go.Proofs.Ytjkedjjahjlmfaa.T
open Go.Dn
set_option linter.unusedSimpArgs false
set_option linter.unusedVariables false

/-- A reader and what is put. -/
structure IO2 (σ : St) (ri ro : Nat) (s : Rd) (L : List UInt8) : Prop where
  in_ : ∃ v, InAt σ ri s v
  out : ∃ w, OutAt σ ro L w
  ne : ri ≠ ro

theorem IO2.fr {σ σ' : St} {ri ro : Nat} {s : Rd} {L : List UInt8} (h : IO2 σ ri ro s L) (hf : Fr [] σ σ') (ht : σ'.toks = σ.toks) : IO2 σ' ri ro s L := by
  obtain ⟨⟨v, hv⟩, ⟨w, hw⟩, hn⟩ := h
  exact ⟨⟨v, hf.get hv.obj (by simp), hv.lv, hv.tl⟩, ⟨w, hf.get hw.obj (by simp), hw.app.toks ht⟩, hn⟩
theorem IO2.get {σ σ' : St} {ri ro : Nat} {s s' : Rd} {L : List UInt8} (h : IO2 σ ri ro s L) (hg : Got σ ri s' σ') : IO2 σ' ri ro s' L := by
  obtain ⟨⟨v, hv⟩, ⟨w, hw⟩, hn⟩ := h
  exact ⟨hg.at_, ⟨w, hg.fr.get hw.obj (by simpa using fun e => hn e.symm), hw.app.toks hg.tk⟩, hn⟩
theorem IO2.put {σ σ' : St} {ri ro : Nat} {s : Rd} {L L' : List UInt8} {w w' : V} (h : IO2 σ ri ro s L) (hp : Put σ ro w L' σ' w') : IO2 σ' ri ro s L' := by
  obtain ⟨⟨v, hv⟩, _, hn⟩ := h
  exact ⟨⟨v, hp.fr.get hv.obj (by simpa using hn), hv.lv, hv.tl⟩, ⟨w', hp.out⟩, hn⟩

theorem Put.ex {σ : St} {r : Nat} {v : V} {l : List UInt8} (h : OutAt σ r l v) (l' : List UInt8) : ∃ σ' v', Put σ r v l' σ' v' := by
  have hl : r < σ.objs.length := (List.getElem?_eq_some_iff.1 h.obj).1
  refine ⟨⟨σ.objs.set r (.cells [.tl (byteRows l') σ.toks.length 0 1]), σ.toks ++ [0 + (byteRows l').length]⟩, .tl (byteRows l') σ.toks.length 0 1, ⟨by simp [hl], .tl _ _ _ (by simp)⟩, ⟨by simp, fun q hq _ => ?_⟩, ⟨by simp, fun t k ht _ => ?_, .inr ⟨_, rfl, Nat.le_refl _⟩⟩⟩
  · simp only
    rw [List.getElem?_set_ne (fun e => hq (by simp [e]))]
  · simp only
    rw [List.getElem?_append_left (List.getElem?_eq_some_iff.1 ht).1]
    exact ht

abbrev tailA : Env := [(67, .any), (68, .any), (69, .any), (70, .any), (71, .any), (72, .any), (90, .any), (95, .any), (100, .any), (106, .any), (111, .any), (116, .any)]

theorem again_step {σ : St} {ri ro q : Nat} {s : Rd} {L : List UInt8} {t : TG} (h : IO2 σ ri ro s L) (hs : s.1.length ≤ 3000) (hL : L.length ≤ 1000000) (hq : σ.objs[q]? = some (.cells t.cells)) (hqi : q ≠ ri) (hqo : q ≠ ro) (ht : t.Ok) {Q : PostC} {x y len i : V}
    (hQ : ∀ σ', IO2 σ' ri ro (t.got s) (L ++ t.back s) → Q .normal ([(0, x), (5, .ref ri 0), (6, .ref ro 0), (24, y), (25, len), (26, i)] ++ tailA) σ') :
    wcode (Dn.Call Γ cx) cx c7_k16 ([(0, x), (5, .ref ri 0), (6, .ref ro 0), (8, .ref q 0), (24, y), (25, len), (26, i)] ++ tailA) σ Q := by
  obtain ⟨⟨v, hv⟩, ⟨w, hw⟩, hn⟩ := id h
  simp only [c7_k16]
  simp -implicitDefEqProofs [body_eq, w_skip, w_ops, w_seq, w_cond, w_block, w_exit, w_ret, q_then_n, q_then_e, q_then_r, q_blk_n, q_blk_e, q_blk_r, q_ops, q_cont, q_end_n, q_end_r, q_end_e, q_loop_n, q_loop_e, q_loop_r, i_nil, i_p, i_alloc, i_box, i_store, i_copy, i_clear, i_make, i_call, i_callv, i_when, t_nil, t_p, t_call, t_alloc, t_box, t_store, kept_nil, t_copy, t_clear, t_make, q_tcont, gsel, List.cons_append, List.nil_append, evalP, evalE, Opd.ev, Env.get, Env.set, Env.pick, putE, initEnv, evalBin, intBin, evalUn, evalConv, goneAll, goneOne, retV, resAll, Res.ev, tupOf, byVals, byValsN, bv_d, bv_da, bv_fl, bv_tl, bn_d, bn_da, bn_fl, bn_tl, cx, Dn.newObj, St.place, St.push, St.spot, St.empty, cell_d, cell_da, cell_agg, cell_ref, cell_sl, cell_fl, cell_tl, cell_map, cell_fn, cell_ifc, loadAt, faddrV, partOf, extractV, mkAgg, ofD, splice, St.setObj, fillV, hq, t.c0, c7_k15, c7_k14]
  by_cases h0 : t.kind = 0
  · have hgot : t.got s = (numS s t.size).2 := by simp [TG.got, h0]
    have hback : t.back s = numB (numS s t.size).1 t.size := by simp [TG.back, h0]
    rw [hgot, hback] at hQ
    simp -implicitDefEqProofs [body_eq, w_skip, w_ops, w_seq, w_cond, w_block, w_exit, w_ret, q_then_n, q_then_e, q_then_r, q_blk_n, q_blk_e, q_blk_r, q_ops, q_cont, q_end_n, q_end_r, q_end_e, q_loop_n, q_loop_e, q_loop_r, i_nil, i_p, i_alloc, i_box, i_store, i_copy, i_clear, i_make, i_call, i_callv, i_when, t_nil, t_p, t_call, t_alloc, t_box, t_store, kept_nil, t_copy, t_clear, t_make, q_tcont, gsel, List.cons_append, List.nil_append, evalP, evalE, Opd.ev, Env.get, Env.set, Env.pick, putE, initEnv, evalBin, intBin, evalUn, evalConv, goneAll, goneOne, retV, resAll, Res.ev, tupOf, byVals, byValsN, bv_d, bv_da, bv_fl, bv_tl, bn_d, bn_da, bn_fl, bn_tl, cx, Dn.newObj, St.place, St.push, St.spot, St.empty, cell_d, cell_da, cell_agg, cell_ref, cell_sl, cell_fl, cell_tl, cell_map, cell_fn, cell_ifc, loadAt, faddrV, partOf, extractV, mkAgg, ofD, splice, St.setObj, fillV, h0, c7_k13]
    refine w_drw (fun _ => .raw) [8, 8] (by decide +kernel) ?_
    simp -implicitDefEqProofs [body_eq, w_skip, w_ops, w_seq, w_cond, w_block, w_exit, w_ret, q_then_n, q_then_e, q_then_r, q_blk_n, q_blk_e, q_blk_r, q_ops, q_cont, q_end_n, q_end_r, q_end_e, q_loop_n, q_loop_e, q_loop_r, i_nil, i_p, i_alloc, i_box, i_store, i_copy, i_clear, i_make, i_call, i_callv, i_when, t_nil, t_p, t_call, t_alloc, t_box, t_store, kept_nil, t_copy, t_clear, t_make, q_tcont, gsel, List.cons_append, List.nil_append, evalP, evalE, Opd.ev, Env.get, Env.set, Env.pick, putE, initEnv, evalBin, intBin, evalUn, evalConv, goneAll, goneOne, retV, resAll, Res.ev, tupOf, byVals, byValsN, bv_d, bv_da, bv_fl, bv_tl, bn_d, bn_da, bn_fl, bn_tl, cx, Dn.newObj, St.place, St.push, St.spot, St.empty, cell_d, cell_da, cell_agg, cell_ref, cell_sl, cell_fl, cell_tl, cell_map, cell_fn, cell_ifc, loadAt, faddrV, partOf, extractV, mkAgg, ofD, splice, St.setObj, fillV, room_zero, hq, t.c1]
    refine use_rawN rfl (s_gNum hv t.size (by omega)) (by obtain ⟨σ', hσ'⟩ := Got.ex hv (numS s t.size).2; exact ⟨_, σ', rfl, hσ'⟩) fun z σ1 ⟨hz, hg⟩ => ⟨?_, ?_⟩
    · intro t' ht' q' hq'
      simp at ht'
      subst ht'
      simp [Env.get, dref] at hq'
      subst hq'
      exact hg.fr.at_ q' (by simpa using hqi) (List.getElem?_eq_some_iff.1 hq).1
    subst hz
    have hq1 : σ1.objs[q]? = some (.cells t.cells) := hg.fr.get hq (by simpa using hqi)
    have h1 := h.get hg
    obtain ⟨_, ⟨w1, hw1⟩, _⟩ := id h1
    simp -implicitDefEqProofs [body_eq, w_skip, w_ops, w_seq, w_cond, w_block, w_exit, w_ret, q_then_n, q_then_e, q_then_r, q_blk_n, q_blk_e, q_blk_r, q_ops, q_cont, q_end_n, q_end_r, q_end_e, q_loop_n, q_loop_e, q_loop_r, i_nil, i_p, i_alloc, i_box, i_store, i_copy, i_clear, i_make, i_call, i_callv, i_when, t_nil, t_p, t_call, t_alloc, t_box, t_store, kept_nil, t_copy, t_clear, t_make, q_tcont, gsel, List.cons_append, List.nil_append, evalP, evalE, Opd.ev, Env.get, Env.set, Env.pick, putE, initEnv, evalBin, intBin, evalUn, evalConv, goneAll, goneOne, retV, resAll, Res.ev, tupOf, byVals, byValsN, bv_d, bv_da, bv_fl, bv_tl, bn_d, bn_da, bn_fl, bn_tl, cx, Dn.newObj, St.place, St.push, St.spot, St.empty, cell_d, cell_da, cell_agg, cell_ref, cell_sl, cell_fl, cell_tl, cell_map, cell_fn, cell_ifc, loadAt, faddrV, partOf, extractV, mkAgg, ofD, splice, St.setObj, fillV, room_zero, hq1, t.c1]
    refine use_rawN rfl (s_Num hw1 (by omega) _ t.size) (by obtain ⟨σ', v', hp⟩ := Put.ex hw1 (L ++ numB (numS s t.size).1 t.size); exact ⟨.d .nilp, σ', v', hp⟩) fun z σ2 ⟨v', hp⟩ => ⟨?_, ?_⟩
    · intro t' ht' q' hq'
      simp at ht'
      subst ht'
      simp [Env.get, dref] at hq'
      subst hq'
      exact hp.fr.at_ q' (by simpa using hqo) (List.getElem?_eq_some_iff.1 hq1).1
    simp -implicitDefEqProofs [body_eq, w_skip, w_ops, w_seq, w_cond, w_block, w_exit, w_ret, q_then_n, q_then_e, q_then_r, q_blk_n, q_blk_e, q_blk_r, q_ops, q_cont, q_end_n, q_end_r, q_end_e, q_loop_n, q_loop_e, q_loop_r, i_nil, i_p, i_alloc, i_box, i_store, i_copy, i_clear, i_make, i_call, i_callv, i_when, t_nil, t_p, t_call, t_alloc, t_box, t_store, kept_nil, t_copy, t_clear, t_make, q_tcont, gsel, List.cons_append, List.nil_append, evalP, evalE, Opd.ev, Env.get, Env.set, Env.pick, putE, initEnv, evalBin, intBin, evalUn, evalConv, goneAll, goneOne, retV, resAll, Res.ev, tupOf, byVals, byValsN, bv_d, bv_da, bv_fl, bv_tl, bn_d, bn_da, bn_fl, bn_tl, cx, Dn.newObj, St.place, St.push, St.spot, St.empty, cell_d, cell_da, cell_agg, cell_ref, cell_sl, cell_fl, cell_tl, cell_map, cell_fn, cell_ifc, loadAt, faddrV, partOf, extractV, mkAgg, ofD, splice, St.setObj, fillV]
    exact hQ _ (h1.put hp)
  by_cases h1 : t.kind = 1
  · have hgot : t.got s = (countS s t.size).2 := by simp [TG.got, h0, h1]
    have hback : t.back s = countB (countS s t.size).1 := by simp [TG.back, h0, h1]
    rw [hgot, hback] at hQ
    simp -implicitDefEqProofs [body_eq, w_skip, w_ops, w_seq, w_cond, w_block, w_exit, w_ret, q_then_n, q_then_e, q_then_r, q_blk_n, q_blk_e, q_blk_r, q_ops, q_cont, q_end_n, q_end_r, q_end_e, q_loop_n, q_loop_e, q_loop_r, i_nil, i_p, i_alloc, i_box, i_store, i_copy, i_clear, i_make, i_call, i_callv, i_when, t_nil, t_p, t_call, t_alloc, t_box, t_store, kept_nil, t_copy, t_clear, t_make, q_tcont, gsel, List.cons_append, List.nil_append, evalP, evalE, Opd.ev, Env.get, Env.set, Env.pick, putE, initEnv, evalBin, intBin, evalUn, evalConv, goneAll, goneOne, retV, resAll, Res.ev, tupOf, byVals, byValsN, bv_d, bv_da, bv_fl, bv_tl, bn_d, bn_da, bn_fl, bn_tl, cx, Dn.newObj, St.place, St.push, St.spot, St.empty, cell_d, cell_da, cell_agg, cell_ref, cell_sl, cell_fl, cell_tl, cell_map, cell_fn, cell_ifc, loadAt, faddrV, partOf, extractV, mkAgg, ofD, splice, St.setObj, fillV, h0, h1, c7_k13, c7_k12, c7_k11, hq, t.c1]
    refine use_raw (s_gCount hv t.size ht.z.2 (by omega)) fun z σ1 ⟨hz, hg⟩ => ?_
    subst hz
    have h1 := h.get hg
    obtain ⟨_, ⟨w1, hw1⟩, _⟩ := id h1
    have hc9 : (countS s t.size).1 ≤ 9223372036854775807 := by
      unfold countS
      split
      · simp
      · rename_i hb
        simp [countBad] at hb
        have := ht.z.2
        omega
    simp -implicitDefEqProofs [body_eq, w_skip, w_ops, w_seq, w_cond, w_block, w_exit, w_ret, q_then_n, q_then_e, q_then_r, q_blk_n, q_blk_e, q_blk_r, q_ops, q_cont, q_end_n, q_end_r, q_end_e, q_loop_n, q_loop_e, q_loop_r, i_nil, i_p, i_alloc, i_box, i_store, i_copy, i_clear, i_make, i_call, i_callv, i_when, t_nil, t_p, t_call, t_alloc, t_box, t_store, kept_nil, t_copy, t_clear, t_make, q_tcont, gsel, List.cons_append, List.nil_append, evalP, evalE, Opd.ev, Env.get, Env.set, Env.pick, putE, initEnv, evalBin, intBin, evalUn, evalConv, goneAll, goneOne, retV, resAll, Res.ev, tupOf, byVals, byValsN, bv_d, bv_da, bv_fl, bv_tl, bn_d, bn_da, bn_fl, bn_tl, cx, Dn.newObj, St.place, St.push, St.spot, St.empty, cell_d, cell_da, cell_agg, cell_ref, cell_sl, cell_fl, cell_tl, cell_map, cell_fn, cell_ifc, loadAt, faddrV, partOf, extractV, mkAgg, ofD, splice, St.setObj, fillV]
    refine use_raw (s_Count hw1 (by omega) _ hc9) fun z σ2 ⟨v', hp⟩ => ?_
    simp -implicitDefEqProofs [body_eq, w_skip, w_ops, w_seq, w_cond, w_block, w_exit, w_ret, q_then_n, q_then_e, q_then_r, q_blk_n, q_blk_e, q_blk_r, q_ops, q_cont, q_end_n, q_end_r, q_end_e, q_loop_n, q_loop_e, q_loop_r, i_nil, i_p, i_alloc, i_box, i_store, i_copy, i_clear, i_make, i_call, i_callv, i_when, t_nil, t_p, t_call, t_alloc, t_box, t_store, kept_nil, t_copy, t_clear, t_make, q_tcont, gsel, List.cons_append, List.nil_append, evalP, evalE, Opd.ev, Env.get, Env.set, Env.pick, putE, initEnv, evalBin, intBin, evalUn, evalConv, goneAll, goneOne, retV, resAll, Res.ev, tupOf, byVals, byValsN, bv_d, bv_da, bv_fl, bv_tl, bn_d, bn_da, bn_fl, bn_tl, cx, Dn.newObj, St.place, St.push, St.spot, St.empty, cell_d, cell_da, cell_agg, cell_ref, cell_sl, cell_fl, cell_tl, cell_map, cell_fn, cell_ifc, loadAt, faddrV, partOf, extractV, mkAgg, ofD, splice, St.setObj, fillV]
    exact hQ _ (h1.put hp)
  by_cases h2 : t.kind = 2
  · have hgot : t.got s = (textS s t.size).2 := by simp [TG.got, h0, h1, h2]
    have hback : t.back s = countB (textS s t.size).1.length ++ (textS s t.size).1 := by simp [TG.back, h0, h1, h2]
    rw [hgot, hback] at hQ
    simp -implicitDefEqProofs [body_eq, w_skip, w_ops, w_seq, w_cond, w_block, w_exit, w_ret, q_then_n, q_then_e, q_then_r, q_blk_n, q_blk_e, q_blk_r, q_ops, q_cont, q_end_n, q_end_r, q_end_e, q_loop_n, q_loop_e, q_loop_r, i_nil, i_p, i_alloc, i_box, i_store, i_copy, i_clear, i_make, i_call, i_callv, i_when, t_nil, t_p, t_call, t_alloc, t_box, t_store, kept_nil, t_copy, t_clear, t_make, q_tcont, gsel, List.cons_append, List.nil_append, evalP, evalE, Opd.ev, Env.get, Env.set, Env.pick, putE, initEnv, evalBin, intBin, evalUn, evalConv, goneAll, goneOne, retV, resAll, Res.ev, tupOf, byVals, byValsN, bv_d, bv_da, bv_fl, bv_tl, bn_d, bn_da, bn_fl, bn_tl, cx, Dn.newObj, St.place, St.push, St.spot, St.empty, cell_d, cell_da, cell_agg, cell_ref, cell_sl, cell_fl, cell_tl, cell_map, cell_fn, cell_ifc, loadAt, faddrV, partOf, extractV, mkAgg, ofD, splice, St.setObj, fillV, h0, h1, h2, c7_k13, c7_k12, c7_k11, c7_k10, c7_k9, hq, t.c1]
    refine use_raw (s_gText hv t.size ht.z.2 (by omega)) fun z σ1 ⟨hz, hg⟩ => ?_
    subst hz
    have h1 := h.get hg
    obtain ⟨_, ⟨w1, hw1⟩, _⟩ := id h1
    have hx : (textS s t.size).1.length ≤ s.1.length := by
      unfold textS nextS
      split
      · simp
      · have := countS_len s t.size
        simp only [List.length_take]
        omega
    simp -implicitDefEqProofs [body_eq, w_skip, w_ops, w_seq, w_cond, w_block, w_exit, w_ret, q_then_n, q_then_e, q_then_r, q_blk_n, q_blk_e, q_blk_r, q_ops, q_cont, q_end_n, q_end_r, q_end_e, q_loop_n, q_loop_e, q_loop_r, i_nil, i_p, i_alloc, i_box, i_store, i_copy, i_clear, i_make, i_call, i_callv, i_when, t_nil, t_p, t_call, t_alloc, t_box, t_store, kept_nil, t_copy, t_clear, t_make, q_tcont, gsel, List.cons_append, List.nil_append, evalP, evalE, Opd.ev, Env.get, Env.set, Env.pick, putE, initEnv, evalBin, intBin, evalUn, evalConv, goneAll, goneOne, retV, resAll, Res.ev, tupOf, byVals, byValsN, bv_d, bv_da, bv_fl, bv_tl, bn_d, bn_da, bn_fl, bn_tl, cx, Dn.newObj, St.place, St.push, St.spot, St.empty, cell_d, cell_da, cell_agg, cell_ref, cell_sl, cell_fl, cell_tl, cell_map, cell_fn, cell_ifc, loadAt, faddrV, partOf, extractV, mkAgg, ofD, splice, St.setObj, fillV]
    refine use_raw (s_Text hw1 (by omega) _ (by omega)) fun z σ2 ⟨v', hp⟩ => ?_
    simp -implicitDefEqProofs [body_eq, w_skip, w_ops, w_seq, w_cond, w_block, w_exit, w_ret, q_then_n, q_then_e, q_then_r, q_blk_n, q_blk_e, q_blk_r, q_ops, q_cont, q_end_n, q_end_r, q_end_e, q_loop_n, q_loop_e, q_loop_r, i_nil, i_p, i_alloc, i_box, i_store, i_copy, i_clear, i_make, i_call, i_callv, i_when, t_nil, t_p, t_call, t_alloc, t_box, t_store, kept_nil, t_copy, t_clear, t_make, q_tcont, gsel, List.cons_append, List.nil_append, evalP, evalE, Opd.ev, Env.get, Env.set, Env.pick, putE, initEnv, evalBin, intBin, evalUn, evalConv, goneAll, goneOne, retV, resAll, Res.ev, tupOf, byVals, byValsN, bv_d, bv_da, bv_fl, bv_tl, bn_d, bn_da, bn_fl, bn_tl, cx, Dn.newObj, St.place, St.push, St.spot, St.empty, cell_d, cell_da, cell_agg, cell_ref, cell_sl, cell_fl, cell_tl, cell_map, cell_fn, cell_ifc, loadAt, faddrV, partOf, extractV, mkAgg, ofD, splice, St.setObj, fillV]
    exact hQ _ (h1.put hp)
  · have hgot : t.got s = (hashS s).2 := by simp [TG.got, h0, h1, h2]
    have hback : t.back s = (hashS s).1 := by simp [TG.back, h0, h1, h2]
    have hhl : (hashS s).1.length = 32 := by simp [hashS, -List.reduceReplicate]
    rw [hgot, hback] at hQ
    simp -implicitDefEqProofs [body_eq, w_skip, w_ops, w_seq, w_cond, w_block, w_exit, w_ret, q_then_n, q_then_e, q_then_r, q_blk_n, q_blk_e, q_blk_r, q_ops, q_cont, q_end_n, q_end_r, q_end_e, q_loop_n, q_loop_e, q_loop_r, i_nil, i_p, i_alloc, i_box, i_store, i_copy, i_clear, i_make, i_call, i_callv, i_when, t_nil, t_p, t_call, t_alloc, t_box, t_store, kept_nil, t_copy, t_clear, t_make, q_tcont, gsel, List.cons_append, List.nil_append, evalP, evalE, Opd.ev, Env.get, Env.set, Env.pick, putE, initEnv, evalBin, intBin, evalUn, evalConv, goneAll, goneOne, retV, resAll, Res.ev, tupOf, byVals, byValsN, bv_d, bv_da, bv_fl, bv_tl, bn_d, bn_da, bn_fl, bn_tl, cx, Dn.newObj, St.place, St.push, St.spot, St.empty, cell_d, cell_da, cell_agg, cell_ref, cell_sl, cell_fl, cell_tl, cell_map, cell_fn, cell_ifc, loadAt, faddrV, partOf, extractV, mkAgg, ofD, splice, St.setObj, fillV, h0, h1, h2, c7_k13, c7_k12, c7_k11, c7_k10, c7_k9]
    refine use_raw (s_gHash hv (by omega)) fun z σ1 ⟨hz, hg⟩ => ?_
    subst hz
    have h1 := h.get hg
    obtain ⟨_, ⟨w1, hw1⟩, _⟩ := id h1
    simp -implicitDefEqProofs [body_eq, w_skip, w_ops, w_seq, w_cond, w_block, w_exit, w_ret, q_then_n, q_then_e, q_then_r, q_blk_n, q_blk_e, q_blk_r, q_ops, q_cont, q_end_n, q_end_r, q_end_e, q_loop_n, q_loop_e, q_loop_r, i_nil, i_p, i_alloc, i_box, i_store, i_copy, i_clear, i_make, i_call, i_callv, i_when, t_nil, t_p, t_call, t_alloc, t_box, t_store, kept_nil, t_copy, t_clear, t_make, q_tcont, gsel, List.cons_append, List.nil_append, evalP, evalE, Opd.ev, Env.get, Env.set, Env.pick, putE, initEnv, evalBin, intBin, evalUn, evalConv, goneAll, goneOne, retV, resAll, Res.ev, tupOf, byVals, byValsN, bv_d, bv_da, bv_fl, bv_tl, bn_d, bn_da, bn_fl, bn_tl, cx, Dn.newObj, St.place, St.push, St.spot, St.empty, cell_d, cell_da, cell_agg, cell_ref, cell_sl, cell_fl, cell_tl, cell_map, cell_fn, cell_ifc, loadAt, faddrV, partOf, extractV, mkAgg, ofD, splice, St.setObj, fillV]
    refine use_raw (s_Hash hw1 (by omega) _ hhl) fun z σ2 ⟨v', hp⟩ => ?_
    simp -implicitDefEqProofs [body_eq, w_skip, w_ops, w_seq, w_cond, w_block, w_exit, w_ret, q_then_n, q_then_e, q_then_r, q_blk_n, q_blk_e, q_blk_r, q_ops, q_cont, q_end_n, q_end_r, q_end_e, q_loop_n, q_loop_e, q_loop_r, i_nil, i_p, i_alloc, i_box, i_store, i_copy, i_clear, i_make, i_call, i_callv, i_when, t_nil, t_p, t_call, t_alloc, t_box, t_store, kept_nil, t_copy, t_clear, t_make, q_tcont, gsel, List.cons_append, List.nil_append, evalP, evalE, Opd.ev, Env.get, Env.set, Env.pick, putE, initEnv, evalBin, intBin, evalUn, evalConv, goneAll, goneOne, retV, resAll, Res.ev, tupOf, byVals, byValsN, bv_d, bv_da, bv_fl, bv_tl, bn_d, bn_da, bn_fl, bn_tl, cx, Dn.newObj, St.place, St.push, St.spot, St.empty, cell_d, cell_da, cell_agg, cell_ref, cell_sl, cell_fl, cell_tl, cell_map, cell_fn, cell_ifc, loadAt, faddrV, partOf, extractV, mkAgg, ofD, splice, St.setObj, fillV]
    exact hQ _ (h1.put hp)

theorem hd_rep : hd (List.replicate 32 0) = List.replicate 32 (.int .u8 0) := by simp [hd, -List.reduceReplicate]

theorem again_nil (σ : St) (e1 e2 e3 : V) : wcode (Dn.Call Γ cx) cx c7_k6 [(73, e1), (90, .any), (95, .any), (100, .any), (106, .any), (111, .any), (116, .any)] σ (endQ .val St.empty [.tmp 4] fun v _ => v = B true) := by
  simp only [c7_k6]
  simp -implicitDefEqProofs [body_eq, w_skip, w_ops, w_seq, w_cond, w_block, w_exit, w_ret, q_then_n, q_then_e, q_then_r, q_blk_n, q_blk_e, q_blk_r, q_ops, q_cont, q_end_n, q_end_r, q_end_e, q_loop_n, q_loop_e, q_loop_r, i_nil, i_p, i_alloc, i_box, i_store, i_copy, i_clear, i_make, i_call, i_callv, i_when, t_nil, t_p, t_call, t_alloc, t_box, t_store, kept_nil, t_copy, t_clear, t_make, q_tcont, gsel, List.cons_append, List.nil_append, evalP, evalE, Opd.ev, Env.get, Env.set, Env.pick, putE, initEnv, evalBin, intBin, evalUn, evalConv, goneAll, goneOne, retV, resAll, Res.ev, tupOf, byVals, byValsN, bv_d, bv_da, bv_fl, bv_tl, bn_d, bn_da, bn_fl, bn_tl, cx, Dn.newObj, St.place, St.push, St.spot, St.empty, cell_d, cell_da, cell_agg, cell_ref, cell_sl, cell_fl, cell_tl, cell_map, cell_fn, cell_ifc, loadAt, faddrV, partOf, extractV, mkAgg, ofD, splice, St.setObj, fillV, c7_k5]
  refine use_raw (o_NumNil σ 1 1) fun z s hs => ?_
  subst hs
  simp -implicitDefEqProofs [body_eq, w_skip, w_ops, w_seq, w_cond, w_block, w_exit, w_ret, q_then_n, q_then_e, q_then_r, q_blk_n, q_blk_e, q_blk_r, q_ops, q_cont, q_end_n, q_end_r, q_end_e, q_loop_n, q_loop_e, q_loop_r, i_nil, i_p, i_alloc, i_box, i_store, i_copy, i_clear, i_make, i_call, i_callv, i_when, t_nil, t_p, t_call, t_alloc, t_box, t_store, kept_nil, t_copy, t_clear, t_make, q_tcont, gsel, List.cons_append, List.nil_append, evalP, evalE, Opd.ev, Env.get, Env.set, Env.pick, putE, initEnv, evalBin, intBin, evalUn, evalConv, goneAll, goneOne, retV, resAll, Res.ev, tupOf, byVals, byValsN, bv_d, bv_da, bv_fl, bv_tl, bn_d, bn_da, bn_fl, bn_tl, cx, Dn.newObj, St.place, St.push, St.spot, St.empty, cell_d, cell_da, cell_agg, cell_ref, cell_sl, cell_fl, cell_tl, cell_map, cell_fn, cell_ifc, loadAt, faddrV, partOf, extractV, mkAgg, ofD, splice, St.setObj, fillV, c7_k4]
  refine use_raw (o_CountNil s 1) fun z s' hs => ?_
  subst hs
  simp -implicitDefEqProofs [body_eq, w_skip, w_ops, w_seq, w_cond, w_block, w_exit, w_ret, q_then_n, q_then_e, q_then_r, q_blk_n, q_blk_e, q_blk_r, q_ops, q_cont, q_end_n, q_end_r, q_end_e, q_loop_n, q_loop_e, q_loop_r, i_nil, i_p, i_alloc, i_box, i_store, i_copy, i_clear, i_make, i_call, i_callv, i_when, t_nil, t_p, t_call, t_alloc, t_box, t_store, kept_nil, t_copy, t_clear, t_make, q_tcont, gsel, List.cons_append, List.nil_append, evalP, evalE, Opd.ev, Env.get, Env.set, Env.pick, putE, initEnv, evalBin, intBin, evalUn, evalConv, goneAll, goneOne, retV, resAll, Res.ev, tupOf, byVals, byValsN, bv_d, bv_da, bv_fl, bv_tl, bn_d, bn_da, bn_fl, bn_tl, cx, Dn.newObj, St.place, St.push, St.spot, St.empty, cell_d, cell_da, cell_agg, cell_ref, cell_sl, cell_fl, cell_tl, cell_map, cell_fn, cell_ifc, loadAt, faddrV, partOf, extractV, mkAgg, ofD, splice, St.setObj, fillV, c7_k3]
  refine use_raw (o_TextNil s' [120]) fun z s hs => ?_
  subst hs
  simp -implicitDefEqProofs [body_eq, w_skip, w_ops, w_seq, w_cond, w_block, w_exit, w_ret, q_then_n, q_then_e, q_then_r, q_blk_n, q_blk_e, q_blk_r, q_ops, q_cont, q_end_n, q_end_r, q_end_e, q_loop_n, q_loop_e, q_loop_r, i_nil, i_p, i_alloc, i_box, i_store, i_copy, i_clear, i_make, i_call, i_callv, i_when, t_nil, t_p, t_call, t_alloc, t_box, t_store, kept_nil, t_copy, t_clear, t_make, q_tcont, gsel, List.cons_append, List.nil_append, evalP, evalE, Opd.ev, Env.get, Env.set, Env.pick, putE, initEnv, evalBin, intBin, evalUn, evalConv, goneAll, goneOne, retV, resAll, Res.ev, tupOf, byVals, byValsN, bv_d, bv_da, bv_fl, bv_tl, bn_d, bn_da, bn_fl, bn_tl, cx, Dn.newObj, St.place, St.push, St.spot, St.empty, cell_d, cell_da, cell_agg, cell_ref, cell_sl, cell_fl, cell_tl, cell_map, cell_fn, cell_ifc, loadAt, faddrV, partOf, extractV, mkAgg, ofD, splice, St.setObj, fillV, -List.reduceReplicate, c7_k2]
  refine use_raw (by have := o_HashNil s (List.replicate 32 0); rw [hd_rep] at this; exact this) fun z s2 _ => ?_
  simp -implicitDefEqProofs [body_eq, w_skip, w_ops, w_seq, w_cond, w_block, w_exit, w_ret, q_then_n, q_then_e, q_then_r, q_blk_n, q_blk_e, q_blk_r, q_ops, q_cont, q_end_n, q_end_r, q_end_e, q_loop_n, q_loop_e, q_loop_r, i_nil, i_p, i_alloc, i_box, i_store, i_copy, i_clear, i_make, i_call, i_callv, i_when, t_nil, t_p, t_call, t_alloc, t_box, t_store, kept_nil, t_copy, t_clear, t_make, q_tcont, gsel, List.cons_append, List.nil_append, evalP, evalE, Opd.ev, Env.get, Env.set, Env.pick, putE, initEnv, evalBin, intBin, evalUn, evalConv, goneAll, goneOne, retV, resAll, Res.ev, tupOf, byVals, byValsN, bv_d, bv_da, bv_fl, bv_tl, bn_d, bn_da, bn_fl, bn_tl, cx, Dn.newObj, St.place, St.push, St.spot, St.empty, cell_d, cell_da, cell_agg, cell_ref, cell_sl, cell_fl, cell_tl, cell_map, cell_fn, cell_ifc, loadAt, faddrV, partOf, extractV, mkAgg, ofD, splice, St.setObj, fillV, -List.reduceReplicate, c7_k1, c7_k0]
  refine use_raw (o_BytesNil s2) fun z s3 ⟨hz, hs⟩ => ?_
  subst hz hs
  simp -implicitDefEqProofs [body_eq, w_skip, w_ops, w_seq, w_cond, w_block, w_exit, w_ret, q_then_n, q_then_e, q_then_r, q_blk_n, q_blk_e, q_blk_r, q_ops, q_cont, q_end_n, q_end_r, q_end_e, q_loop_n, q_loop_e, q_loop_r, i_nil, i_p, i_alloc, i_box, i_store, i_copy, i_clear, i_make, i_call, i_callv, i_when, t_nil, t_p, t_call, t_alloc, t_box, t_store, kept_nil, t_copy, t_clear, t_make, q_tcont, gsel, List.cons_append, List.nil_append, evalP, evalE, Opd.ev, Env.get, Env.set, Env.pick, putE, initEnv, evalBin, intBin, evalUn, evalConv, goneAll, goneOne, retV, resAll, Res.ev, tupOf, byVals, byValsN, bv_d, bv_da, bv_fl, bv_tl, bn_d, bn_da, bn_fl, bn_tl, cx, Dn.newObj, St.place, St.push, St.spot, St.empty, cell_d, cell_da, cell_agg, cell_ref, cell_sl, cell_fl, cell_tl, cell_map, cell_fn, cell_ifc, loadAt, faddrV, partOf, extractV, mkAgg, ofD, splice, St.setObj, fillV, -List.reduceReplicate, lenT, lenV]
  refine use_raw (s_gNumNil s3 1) fun z s4 ⟨hz, hs⟩ => ?_
  subst hz hs
  simp -implicitDefEqProofs [body_eq, w_skip, w_ops, w_seq, w_cond, w_block, w_exit, w_ret, q_then_n, q_then_e, q_then_r, q_blk_n, q_blk_e, q_blk_r, q_ops, q_cont, q_end_n, q_end_r, q_end_e, q_loop_n, q_loop_e, q_loop_r, i_nil, i_p, i_alloc, i_box, i_store, i_copy, i_clear, i_make, i_call, i_callv, i_when, t_nil, t_p, t_call, t_alloc, t_box, t_store, kept_nil, t_copy, t_clear, t_make, q_tcont, gsel, List.cons_append, List.nil_append, evalP, evalE, Opd.ev, Env.get, Env.set, Env.pick, putE, initEnv, evalBin, intBin, evalUn, evalConv, goneAll, goneOne, retV, resAll, Res.ev, tupOf, byVals, byValsN, bv_d, bv_da, bv_fl, bv_tl, bn_d, bn_da, bn_fl, bn_tl, cx, Dn.newObj, St.place, St.push, St.spot, St.empty, cell_d, cell_da, cell_agg, cell_ref, cell_sl, cell_fl, cell_tl, cell_map, cell_fn, cell_ifc, loadAt, faddrV, partOf, extractV, mkAgg, ofD, splice, St.setObj, fillV, -List.reduceReplicate]
  refine use_raw (s_gCountNil s4 9) fun z s5 ⟨hz, hs⟩ => ?_
  subst hz hs
  simp -implicitDefEqProofs [body_eq, w_skip, w_ops, w_seq, w_cond, w_block, w_exit, w_ret, q_then_n, q_then_e, q_then_r, q_blk_n, q_blk_e, q_blk_r, q_ops, q_cont, q_end_n, q_end_r, q_end_e, q_loop_n, q_loop_e, q_loop_r, i_nil, i_p, i_alloc, i_box, i_store, i_copy, i_clear, i_make, i_call, i_callv, i_when, t_nil, t_p, t_call, t_alloc, t_box, t_store, kept_nil, t_copy, t_clear, t_make, q_tcont, gsel, List.cons_append, List.nil_append, evalP, evalE, Opd.ev, Env.get, Env.set, Env.pick, putE, initEnv, evalBin, intBin, evalUn, evalConv, goneAll, goneOne, retV, resAll, Res.ev, tupOf, byVals, byValsN, bv_d, bv_da, bv_fl, bv_tl, bn_d, bn_da, bn_fl, bn_tl, cx, Dn.newObj, St.place, St.push, St.spot, St.empty, cell_d, cell_da, cell_agg, cell_ref, cell_sl, cell_fl, cell_tl, cell_map, cell_fn, cell_ifc, loadAt, faddrV, partOf, extractV, mkAgg, ofD, splice, St.setObj, fillV, -List.reduceReplicate]
  refine use_raw (s_gTextNil s5 9) fun z s6 ⟨hz, hs⟩ => ?_
  subst hz hs
  simp -implicitDefEqProofs [body_eq, w_skip, w_ops, w_seq, w_cond, w_block, w_exit, w_ret, q_then_n, q_then_e, q_then_r, q_blk_n, q_blk_e, q_blk_r, q_ops, q_cont, q_end_n, q_end_r, q_end_e, q_loop_n, q_loop_e, q_loop_r, i_nil, i_p, i_alloc, i_box, i_store, i_copy, i_clear, i_make, i_call, i_callv, i_when, t_nil, t_p, t_call, t_alloc, t_box, t_store, kept_nil, t_copy, t_clear, t_make, q_tcont, gsel, List.cons_append, List.nil_append, evalP, evalE, Opd.ev, Env.get, Env.set, Env.pick, putE, initEnv, evalBin, intBin, evalUn, evalConv, goneAll, goneOne, retV, resAll, Res.ev, tupOf, byVals, byValsN, bv_d, bv_da, bv_fl, bv_tl, bn_d, bn_da, bn_fl, bn_tl, cx, Dn.newObj, St.place, St.push, St.spot, St.empty, cell_d, cell_da, cell_agg, cell_ref, cell_sl, cell_fl, cell_tl, cell_map, cell_fn, cell_ifc, loadAt, faddrV, partOf, extractV, mkAgg, ofD, splice, St.setObj, fillV, -List.reduceReplicate]
  refine use_raw (s_gHashNil s6) fun z s7 hz => ?_
  subst hz
  have hfa : fitsAll (List.replicate 32 (.int .u8)) (List.replicate 32 (.int .u8 0)) = true := by decide +kernel
  have hoz : ofD (List.replicate 32 (V.d (.int .u8 0))) = some (List.replicate 32 (.int .u8 0)) := by
    have : List.replicate 32 (V.d (.int .u8 0)) = (List.replicate 32 (.int .u8 0)).map V.d := by simp [-List.reduceReplicate]
    rw [this]
    exact ofD_map _
  simp -implicitDefEqProofs [body_eq, w_skip, w_ops, w_seq, w_cond, w_block, w_exit, w_ret, q_then_n, q_then_e, q_then_r, q_blk_n, q_blk_e, q_blk_r, q_ops, q_cont, q_end_n, q_end_r, q_end_e, q_loop_n, q_loop_e, q_loop_r, i_nil, i_p, i_alloc, i_box, i_store, i_copy, i_clear, i_make, i_call, i_callv, i_when, t_nil, t_p, t_call, t_alloc, t_box, t_store, kept_nil, t_copy, t_clear, t_make, q_tcont, gsel, List.cons_append, List.nil_append, evalP, evalE, Opd.ev, Env.get, Env.set, Env.pick, putE, initEnv, evalBin, intBin, evalUn, evalConv, goneAll, goneOne, retV, resAll, Res.ev, tupOf, byVals, byValsN, bv_d, bv_da, bv_fl, bv_tl, bn_d, bn_da, bn_fl, bn_tl, cx, Dn.newObj, St.place, St.push, St.spot, St.empty, cell_d, cell_da, cell_agg, cell_ref, cell_sl, cell_fl, cell_tl, cell_map, cell_fn, cell_ifc, loadAt, faddrV, partOf, extractV, mkAgg, ofD, splice, St.setObj, fillV, -List.reduceReplicate, hd_rep, eqV, hoz, hfa]
  refine use_raw (s_LeftNil s7) fun z s8 ⟨hz, hs⟩ => ?_
  subst hz hs
  simp -implicitDefEqProofs [body_eq, w_skip, w_ops, w_seq, w_cond, w_block, w_exit, w_ret, q_then_n, q_then_e, q_then_r, q_blk_n, q_blk_e, q_blk_r, q_ops, q_cont, q_end_n, q_end_r, q_end_e, q_loop_n, q_loop_e, q_loop_r, i_nil, i_p, i_alloc, i_box, i_store, i_copy, i_clear, i_make, i_call, i_callv, i_when, t_nil, t_p, t_call, t_alloc, t_box, t_store, kept_nil, t_copy, t_clear, t_make, q_tcont, gsel, List.cons_append, List.nil_append, evalP, evalE, Opd.ev, Env.get, Env.set, Env.pick, putE, initEnv, evalBin, intBin, evalUn, evalConv, goneAll, goneOne, retV, resAll, Res.ev, tupOf, byVals, byValsN, bv_d, bv_da, bv_fl, bv_tl, bn_d, bn_da, bn_fl, bn_tl, cx, Dn.newObj, St.place, St.push, St.spot, St.empty, cell_d, cell_da, cell_agg, cell_ref, cell_sl, cell_fl, cell_tl, cell_map, cell_fn, cell_ifc, loadAt, faddrV, partOf, extractV, mkAgg, ofD, splice, St.setObj, fillV, -List.reduceReplicate]
  refine use_raw (s_EndNil s8) fun z s9 ⟨hz, hs⟩ => ?_
  subst hz hs
  simp -implicitDefEqProofs [body_eq, w_skip, w_ops, w_seq, w_cond, w_block, w_exit, w_ret, q_then_n, q_then_e, q_then_r, q_blk_n, q_blk_e, q_blk_r, q_ops, q_cont, q_end_n, q_end_r, q_end_e, q_loop_n, q_loop_e, q_loop_r, i_nil, i_p, i_alloc, i_box, i_store, i_copy, i_clear, i_make, i_call, i_callv, i_when, t_nil, t_p, t_call, t_alloc, t_box, t_store, kept_nil, t_copy, t_clear, t_make, q_tcont, gsel, List.cons_append, List.nil_append, evalP, evalE, Opd.ev, Env.get, Env.set, Env.pick, putE, initEnv, evalBin, intBin, evalUn, evalConv, goneAll, goneOne, retV, resAll, Res.ev, tupOf, byVals, byValsN, bv_d, bv_da, bv_fl, bv_tl, bn_d, bn_da, bn_fl, bn_tl, cx, Dn.newObj, St.place, St.push, St.spot, St.empty, cell_d, cell_da, cell_agg, cell_ref, cell_sl, cell_fl, cell_tl, cell_map, cell_fn, cell_ifc, loadAt, faddrV, partOf, extractV, mkAgg, ofD, splice, St.setObj, fillV, -List.reduceReplicate]
  refine use_fn rfl (s_Is 2 2 (by decide)) rfl ?_
  simp -implicitDefEqProofs [body_eq, w_skip, w_ops, w_seq, w_cond, w_block, w_exit, w_ret, q_then_n, q_then_e, q_then_r, q_blk_n, q_blk_e, q_blk_r, q_ops, q_cont, q_end_n, q_end_r, q_end_e, q_loop_n, q_loop_e, q_loop_r, i_nil, i_p, i_alloc, i_box, i_store, i_copy, i_clear, i_make, i_call, i_callv, i_when, t_nil, t_p, t_call, t_alloc, t_box, t_store, kept_nil, t_copy, t_clear, t_make, q_tcont, gsel, List.cons_append, List.nil_append, evalP, evalE, Opd.ev, Env.get, Env.set, Env.pick, putE, initEnv, evalBin, intBin, evalUn, evalConv, goneAll, goneOne, retV, resAll, Res.ev, tupOf, byVals, byValsN, bv_d, bv_da, bv_fl, bv_tl, bn_d, bn_da, bn_fl, bn_tl, cx, Dn.newObj, St.place, St.push, St.spot, St.empty, cell_d, cell_da, cell_agg, cell_ref, cell_sl, cell_fl, cell_tl, cell_map, cell_fn, cell_ifc, loadAt, faddrV, partOf, extractV, mkAgg, ofD, splice, St.setObj, fillV, -List.reduceReplicate]

def InvAgain (x y : D) (b : List UInt8) (l : List TG) (ri ro : Nat) (m : Nat) (e : Env) (σ : St) : Prop := ∃ (i : Nat) (s : Rd) (L : List UInt8), e = [(0, .d x), (5, .ref ri 0), (6, .ref ro 0), (24, .d y), (25, I l.length), (26, I i)] ++ tailA ∧ i ≤ l.length ∧ m = l.length - i ∧ IO2 σ ri ro s L ∧ s.1.length ≤ 3000 ∧ L.length ≤ i * 4000 ∧ (s.2 = false → L ++ s.1 = b)

theorem s7 {x y : D} {b : List UInt8} {l : List TG} (hx : LV (.d x) (byteRows b)) (hy : LV (.d y) (thingRows l)) (hok : ∀ t ∈ l, t.Ok) : Dn.Call Γ cx .val 7 [.d x, .d y] St.empty fun v _ => v = B true := by
  refine Dn.Call.body (fc := c7) rfl ?_
  have hlen : (thingRows l).length = l.length := by simp [thingRows]
  simp -implicitDefEqProofs [body_eq, w_skip, w_ops, w_seq, w_cond, w_block, w_exit, w_ret, q_then_n, q_then_e, q_then_r, q_blk_n, q_blk_e, q_blk_r, q_ops, q_cont, q_end_n, q_end_r, q_end_e, q_loop_n, q_loop_e, q_loop_r, i_nil, i_p, i_alloc, i_box, i_store, i_copy, i_clear, i_make, i_call, i_callv, i_when, t_nil, t_p, t_call, t_alloc, t_box, t_store, kept_nil, t_copy, t_clear, t_make, q_tcont, gsel, List.cons_append, List.nil_append, evalP, evalE, Opd.ev, Env.get, Env.set, Env.pick, putE, initEnv, evalBin, intBin, evalUn, evalConv, goneAll, goneOne, retV, resAll, Res.ev, tupOf, byVals, byValsN, bv_d, bv_da, bv_fl, bv_tl, bn_d, bn_da, bn_fl, bn_tl, cx, Dn.newObj, St.place, St.push, St.spot, St.empty, cell_d, cell_da, cell_agg, cell_ref, cell_sl, cell_fl, cell_tl, cell_map, cell_fn, cell_ifc, loadAt, faddrV, partOf, extractV, mkAgg, ofD, splice, St.setObj, fillV, c7, c7_k27]
  refine use_fn rfl s_alive rfl ?_
  simp -implicitDefEqProofs [body_eq, w_skip, w_ops, w_seq, w_cond, w_block, w_exit, w_ret, q_then_n, q_then_e, q_then_r, q_blk_n, q_blk_e, q_blk_r, q_ops, q_cont, q_end_n, q_end_r, q_end_e, q_loop_n, q_loop_e, q_loop_r, i_nil, i_p, i_alloc, i_box, i_store, i_copy, i_clear, i_make, i_call, i_callv, i_when, t_nil, t_p, t_call, t_alloc, t_box, t_store, kept_nil, t_copy, t_clear, t_make, q_tcont, gsel, List.cons_append, List.nil_append, evalP, evalE, Opd.ev, Env.get, Env.set, Env.pick, putE, initEnv, evalBin, intBin, evalUn, evalConv, goneAll, goneOne, retV, resAll, Res.ev, tupOf, byVals, byValsN, bv_d, bv_da, bv_fl, bv_tl, bn_d, bn_da, bn_fl, bn_tl, cx, Dn.newObj, St.place, St.push, St.spot, St.empty, cell_d, cell_da, cell_agg, cell_ref, cell_sl, cell_fl, cell_tl, cell_map, cell_fn, cell_ifc, loadAt, faddrV, partOf, extractV, mkAgg, ofD, splice, St.setObj, fillV, c7_k26, c7_k25]
  refine use_val (ds := [.d y]) rfl (s_long l hy hok) ?_
  rintro v s ⟨bb, rfl, hb⟩
  refine ⟨rfl, fun _ => rfl, ?_⟩
  cases bb with
  | true => simp -implicitDefEqProofs [body_eq, w_skip, w_ops, w_seq, w_cond, w_block, w_exit, w_ret, q_then_n, q_then_e, q_then_r, q_blk_n, q_blk_e, q_blk_r, q_ops, q_cont, q_end_n, q_end_r, q_end_e, q_loop_n, q_loop_e, q_loop_r, i_nil, i_p, i_alloc, i_box, i_store, i_copy, i_clear, i_make, i_call, i_callv, i_when, t_nil, t_p, t_call, t_alloc, t_box, t_store, kept_nil, t_copy, t_clear, t_make, q_tcont, gsel, List.cons_append, List.nil_append, evalP, evalE, Opd.ev, Env.get, Env.set, Env.pick, putE, initEnv, evalBin, intBin, evalUn, evalConv, goneAll, goneOne, retV, resAll, Res.ev, tupOf, byVals, byValsN, bv_d, bv_da, bv_fl, bv_tl, bn_d, bn_da, bn_fl, bn_tl, cx, Dn.newObj, St.place, St.push, St.spot, St.empty, cell_d, cell_da, cell_agg, cell_ref, cell_sl, cell_fl, cell_tl, cell_map, cell_fn, cell_ifc, loadAt, faddrV, partOf, extractV, mkAgg, ofD, splice, St.setObj, fillV, c7_k24]
  | false =>
  obtain ⟨hl41, hts⟩ := hb rfl
  have hxl : lenT St.empty .slice (.d x) = some b.length := by rw [hx.len, byteRows_len]
  simp only [St.empty] at hxl
  by_cases hbl : (3000 : Int) < b.length
  · simp -implicitDefEqProofs [body_eq, w_skip, w_ops, w_seq, w_cond, w_block, w_exit, w_ret, q_then_n, q_then_e, q_then_r, q_blk_n, q_blk_e, q_blk_r, q_ops, q_cont, q_end_n, q_end_r, q_end_e, q_loop_n, q_loop_e, q_loop_r, i_nil, i_p, i_alloc, i_box, i_store, i_copy, i_clear, i_make, i_call, i_callv, i_when, t_nil, t_p, t_call, t_alloc, t_box, t_store, kept_nil, t_copy, t_clear, t_make, q_tcont, gsel, List.cons_append, List.nil_append, evalP, evalE, Opd.ev, Env.get, Env.set, Env.pick, putE, initEnv, evalBin, intBin, evalUn, evalConv, goneAll, goneOne, retV, resAll, Res.ev, tupOf, byVals, byValsN, bv_d, bv_da, bv_fl, bv_tl, bn_d, bn_da, bn_fl, bn_tl, cx, Dn.newObj, St.place, St.push, St.spot, St.empty, cell_d, cell_da, cell_agg, cell_ref, cell_sl, cell_fl, cell_tl, cell_map, cell_fn, cell_ifc, loadAt, faddrV, partOf, extractV, mkAgg, ofD, splice, St.setObj, fillV, hxl, hbl, c7_k24]
  have hbl' : b.length ≤ 3000 := by omega
  simp -implicitDefEqProofs [body_eq, w_skip, w_ops, w_seq, w_cond, w_block, w_exit, w_ret, q_then_n, q_then_e, q_then_r, q_blk_n, q_blk_e, q_blk_r, q_ops, q_cont, q_end_n, q_end_r, q_end_e, q_loop_n, q_loop_e, q_loop_r, i_nil, i_p, i_alloc, i_box, i_store, i_copy, i_clear, i_make, i_call, i_callv, i_when, t_nil, t_p, t_call, t_alloc, t_box, t_store, kept_nil, t_copy, t_clear, t_make, q_tcont, gsel, List.cons_append, List.nil_append, evalP, evalE, Opd.ev, Env.get, Env.set, Env.pick, putE, initEnv, evalBin, intBin, evalUn, evalConv, goneAll, goneOne, retV, resAll, Res.ev, tupOf, byVals, byValsN, bv_d, bv_da, bv_fl, bv_tl, bn_d, bn_da, bn_fl, bn_tl, cx, Dn.newObj, St.place, St.push, St.spot, St.empty, cell_d, cell_da, cell_agg, cell_ref, cell_sl, cell_fl, cell_tl, cell_map, cell_fn, cell_ifc, loadAt, faddrV, partOf, extractV, mkAgg, ofD, splice, St.setObj, fillV, hxl, hbl, c7_k24, c7_k23]
  refine use_raw (s_Read _ hx (by omega)) fun u σ1 ⟨⟨ri, v1, e, hr, hin⟩, hfr, htk⟩ => ?_
  subst e
  have hr1 : ri < σ1.objs.length := (List.getElem?_eq_some_iff.1 hin.obj).1
  simp -implicitDefEqProofs [body_eq, w_skip, w_ops, w_seq, w_cond, w_block, w_exit, w_ret, q_then_n, q_then_e, q_then_r, q_blk_n, q_blk_e, q_blk_r, q_ops, q_cont, q_end_n, q_end_r, q_end_e, q_loop_n, q_loop_e, q_loop_r, i_nil, i_p, i_alloc, i_box, i_store, i_copy, i_clear, i_make, i_call, i_callv, i_when, t_nil, t_p, t_call, t_alloc, t_box, t_store, kept_nil, t_copy, t_clear, t_make, q_tcont, gsel, List.cons_append, List.nil_append, evalP, evalE, Opd.ev, Env.get, Env.set, Env.pick, putE, initEnv, evalBin, intBin, evalUn, evalConv, goneAll, goneOne, retV, resAll, Res.ev, tupOf, byVals, byValsN, bv_d, bv_da, bv_fl, bv_tl, bn_d, bn_da, bn_fl, bn_tl, cx, Dn.newObj, St.place, St.push, St.spot, St.empty, cell_d, cell_da, cell_agg, cell_ref, cell_sl, cell_fl, cell_tl, cell_map, cell_fn, cell_ifc, loadAt, faddrV, partOf, extractV, mkAgg, ofD, splice, St.setObj, fillV]
  obtain ⟨σ2, hσ2⟩ : ∃ s1 : St, (⟨σ1.objs ++ [.cells [.d .nils]], σ1.toks⟩ : St) = s1 := ⟨_, rfl⟩
  rw [hσ2]
  have f1 : Fr [] σ1 σ2 := ⟨by rw [← hσ2]; simp, fun q _ hq => by rw [← hσ2]; simp [List.getElem?_append_left hq]⟩
  have g1 : σ2.objs[σ1.objs.length]? = some (.cells [.d .nils]) := by rw [← hσ2]; simp
  have hIO : IO2 σ2 ri σ1.objs.length (b, false) [] := ⟨⟨v1, f1.get hin.obj (by simp), hin.lv, hin.tl⟩, ⟨.d .nils, g1, by simpa [byteRows] using App.nil⟩, by omega⟩
  simp -implicitDefEqProofs [body_eq, w_skip, w_ops, w_seq, w_cond, w_block, w_exit, w_ret, q_then_n, q_then_e, q_then_r, q_blk_n, q_blk_e, q_blk_r, q_ops, q_cont, q_end_n, q_end_r, q_end_e, q_loop_n, q_loop_e, q_loop_r, i_nil, i_p, i_alloc, i_box, i_store, i_copy, i_clear, i_make, i_call, i_callv, i_when, t_nil, t_p, t_call, t_alloc, t_box, t_store, kept_nil, t_copy, t_clear, t_make, q_tcont, gsel, List.cons_append, List.nil_append, evalP, evalE, Opd.ev, Env.get, Env.set, Env.pick, putE, initEnv, evalBin, intBin, evalUn, evalConv, goneAll, goneOne, retV, resAll, Res.ev, tupOf, byVals, byValsN, bv_d, bv_da, bv_fl, bv_tl, bn_d, bn_da, bn_fl, bn_tl, cx, Dn.newObj, St.place, St.push, St.spot, St.empty, cell_d, cell_da, cell_agg, cell_ref, cell_sl, cell_fl, cell_tl, cell_map, cell_fn, cell_ifc, loadAt, faddrV, partOf, extractV, mkAgg, ofD, splice, St.setObj, fillV, c7_k22, hy.len σ2, hlen, c7_k21]
  refine wloopI (InvAgain x y b l ri σ1.objs.length) (m := l.length) ⟨0, (b, false), [], rfl, by omega, rfl, hIO, hbl', by simp, fun _ => rfl⟩ ?_
  rintro m e σ ⟨i, s, L, rfl, hi, rfl, hB, hs, hL, hput⟩
  simp -implicitDefEqProofs [body_eq, w_skip, w_ops, w_seq, w_cond, w_block, w_exit, w_ret, q_then_n, q_then_e, q_then_r, q_blk_n, q_blk_e, q_blk_r, q_ops, q_cont, q_end_n, q_end_r, q_end_e, q_loop_n, q_loop_e, q_loop_r, i_nil, i_p, i_alloc, i_box, i_store, i_copy, i_clear, i_make, i_call, i_callv, i_when, t_nil, t_p, t_call, t_alloc, t_box, t_store, kept_nil, t_copy, t_clear, t_make, q_tcont, gsel, List.cons_append, List.nil_append, evalP, evalE, Opd.ev, Env.get, Env.set, Env.pick, putE, initEnv, evalBin, intBin, evalUn, evalConv, goneAll, goneOne, retV, resAll, Res.ev, tupOf, byVals, byValsN, bv_d, bv_da, bv_fl, bv_tl, bn_d, bn_da, bn_fl, bn_tl, cx, Dn.newObj, St.place, St.push, St.spot, St.empty, cell_d, cell_da, cell_agg, cell_ref, cell_sl, cell_fl, cell_tl, cell_map, cell_fn, cell_ifc, loadAt, faddrV, partOf, extractV, mkAgg, ofD, splice, St.setObj, fillV, c7_l20, c7_k19]
  obtain ⟨⟨v, hv⟩, ⟨w, hw⟩, hn⟩ := id hB
  have hri : ri < σ.objs.length := (List.getElem?_eq_some_iff.1 hv.obj).1
  have hro : σ1.objs.length < σ.objs.length := (List.getElem?_eq_some_iff.1 hw.obj).1
  by_cases hlt : i < l.length
  · have hbi : l[i]? = some (l[i]) := by simp [hlt]
    have ht := hok _ (List.getElem_mem hlt)
    generalize hti : l[i] = t at *
    have hia := hy.iaddr σ (k := .i64) (sz := 36) (thingRows_at hbi) (TG.row_len ht)
    have hii : (i : Int) < l.length := by omega
    have hrl' := TG.row_len ht
    have htk : List.take 36 (List.map V.d t.row) = t.cells := List.take_of_length_le (by simp [hrl'])
    have hcl := TG.cells_len ht
    simp -implicitDefEqProofs [body_eq, w_skip, w_ops, w_seq, w_cond, w_block, w_exit, w_ret, q_then_n, q_then_e, q_then_r, q_blk_n, q_blk_e, q_blk_r, q_ops, q_cont, q_end_n, q_end_r, q_end_e, q_loop_n, q_loop_e, q_loop_r, i_nil, i_p, i_alloc, i_box, i_store, i_copy, i_clear, i_make, i_call, i_callv, i_when, t_nil, t_p, t_call, t_alloc, t_box, t_store, kept_nil, t_copy, t_clear, t_make, q_tcont, gsel, List.cons_append, List.nil_append, evalP, evalE, Opd.ev, Env.get, Env.set, Env.pick, putE, initEnv, evalBin, intBin, evalUn, evalConv, goneAll, goneOne, retV, resAll, Res.ev, tupOf, byVals, byValsN, bv_d, bv_da, bv_fl, bv_tl, bn_d, bn_da, bn_fl, bn_tl, cx, Dn.newObj, St.place, St.push, St.spot, St.empty, cell_d, cell_da, cell_agg, cell_ref, cell_sl, cell_fl, cell_tl, cell_map, cell_fn, cell_ifc, loadAt, faddrV, partOf, extractV, mkAgg, ofD, splice, St.setObj, fillV, hii, hlt, c7_k18, c7_k17, hia, hrl', htk, hcl]
    refine again_step (q := σ.objs.length) (σ := ⟨σ.objs ++ [.cells t.cells], σ.toks⟩) (s := s) (L := L) (hB.fr ⟨by simp, fun q _ hq => by simp [List.getElem?_append_left hq]⟩ rfl) hs (by omega) (by simp) (by omega) (by omega) ht ?_
    intro σ' hB'
    have hbk := back_len t s hs
    simp -implicitDefEqProofs [body_eq, w_skip, w_ops, w_seq, w_cond, w_block, w_exit, w_ret, q_then_n, q_then_e, q_then_r, q_blk_n, q_blk_e, q_blk_r, q_ops, q_cont, q_end_n, q_end_r, q_end_e, q_loop_n, q_loop_e, q_loop_r, i_nil, i_p, i_alloc, i_box, i_store, i_copy, i_clear, i_make, i_call, i_callv, i_when, t_nil, t_p, t_call, t_alloc, t_box, t_store, kept_nil, t_copy, t_clear, t_make, q_tcont, gsel, List.cons_append, List.nil_append, evalP, evalE, Opd.ev, Env.get, Env.set, Env.pick, putE, initEnv, evalBin, intBin, evalUn, evalConv, goneAll, goneOne, retV, resAll, Res.ev, tupOf, byVals, byValsN, bv_d, bv_da, bv_fl, bv_tl, bn_d, bn_da, bn_fl, bn_tl, cx, Dn.newObj, St.place, St.push, St.spot, St.empty, cell_d, cell_da, cell_agg, cell_ref, cell_sl, cell_fl, cell_tl, cell_map, cell_fn, cell_ifc, loadAt, faddrV, partOf, extractV, mkAgg, ofD, splice, St.setObj, fillV, wrap_i64 (n := (i : Int) + 1) (by omega) (by omega)]
    refine ⟨l.length - (i + 1), by omega, i + 1, _, _, rfl, by omega, rfl, hB', Nat.le_trans (got_len t s) hs, by simp; omega, fun hbad => ?_⟩
    obtain ⟨h1, h2⟩ := back_put t hbad
    rw [List.append_assoc, h2]
    exact hput h1
  obtain rfl : i = l.length := by omega
  simp -implicitDefEqProofs [body_eq, w_skip, w_ops, w_seq, w_cond, w_block, w_exit, w_ret, q_then_n, q_then_e, q_then_r, q_blk_n, q_blk_e, q_blk_r, q_ops, q_cont, q_end_n, q_end_r, q_end_e, q_loop_n, q_loop_e, q_loop_r, i_nil, i_p, i_alloc, i_box, i_store, i_copy, i_clear, i_make, i_call, i_callv, i_when, t_nil, t_p, t_call, t_alloc, t_box, t_store, kept_nil, t_copy, t_clear, t_make, q_tcont, gsel, List.cons_append, List.nil_append, evalP, evalE, Opd.ev, Env.get, Env.set, Env.pick, putE, initEnv, evalBin, intBin, evalUn, evalConv, goneAll, goneOne, retV, resAll, Res.ev, tupOf, byVals, byValsN, bv_d, bv_da, bv_fl, bv_tl, bn_d, bn_da, bn_fl, bn_tl, cx, Dn.newObj, St.place, St.push, St.spot, St.empty, cell_d, cell_da, cell_agg, cell_ref, cell_sl, cell_fl, cell_tl, cell_map, cell_fn, cell_ifc, loadAt, faddrV, partOf, extractV, mkAgg, ofD, splice, St.setObj, fillV, c7_k8]
  refine w_drw (fun _ => .rd) [] (by decide +kernel) ?_
  simp -implicitDefEqProofs [body_eq, w_skip, w_ops, w_seq, w_cond, w_block, w_exit, w_ret, q_then_n, q_then_e, q_then_r, q_blk_n, q_blk_e, q_blk_r, q_ops, q_cont, q_end_n, q_end_r, q_end_e, q_loop_n, q_loop_e, q_loop_r, i_nil, i_p, i_alloc, i_box, i_store, i_copy, i_clear, i_make, i_call, i_callv, i_when, t_nil, t_p, t_call, t_alloc, t_box, t_store, kept_nil, t_copy, t_clear, t_make, q_tcont, gsel, List.cons_append, List.nil_append, evalP, evalE, Opd.ev, Env.get, Env.set, Env.pick, putE, initEnv, evalBin, intBin, evalUn, evalConv, goneAll, goneOne, retV, resAll, Res.ev, tupOf, byVals, byValsN, bv_d, bv_da, bv_fl, bv_tl, bn_d, bn_da, bn_fl, bn_tl, cx, Dn.newObj, St.place, St.push, St.spot, St.empty, cell_d, cell_da, cell_agg, cell_ref, cell_sl, cell_fl, cell_tl, cell_map, cell_fn, cell_ifc, loadAt, faddrV, partOf, extractV, mkAgg, ofD, splice, St.setObj, fillV, room_zero]
  refine use_rdN rfl (fun σ3 ha => s_EndR (s := s) ⟨(ha.1 ri hri).trans hv.obj, hv.lv, hv.tl⟩) ?_
  simp -implicitDefEqProofs [body_eq, w_skip, w_ops, w_seq, w_cond, w_block, w_exit, w_ret, q_then_n, q_then_e, q_then_r, q_blk_n, q_blk_e, q_blk_r, q_ops, q_cont, q_end_n, q_end_r, q_end_e, q_loop_n, q_loop_e, q_loop_r, i_nil, i_p, i_alloc, i_box, i_store, i_copy, i_clear, i_make, i_call, i_callv, i_when, t_nil, t_p, t_call, t_alloc, t_box, t_store, kept_nil, t_copy, t_clear, t_make, q_tcont, gsel, List.cons_append, List.nil_append, evalP, evalE, Opd.ev, Env.get, Env.set, Env.pick, putE, initEnv, evalBin, intBin, evalUn, evalConv, goneAll, goneOne, retV, resAll, Res.ev, tupOf, byVals, byValsN, bv_d, bv_da, bv_fl, bv_tl, bn_d, bn_da, bn_fl, bn_tl, cx, Dn.newObj, St.place, St.push, St.spot, St.empty, cell_d, cell_da, cell_agg, cell_ref, cell_sl, cell_fl, cell_tl, cell_map, cell_fn, cell_ifc, loadAt, faddrV, partOf, extractV, mkAgg, ofD, splice, St.setObj, fillV, room_zero, Opd.isC, endV_eq]
  obtain ⟨c, hc⟩ : ∃ c, (!s.2 && decide (s.1 = [])) = c := ⟨_, rfl⟩
  rw [hc]
  cases c with
  | false =>
    have hno : ¬ (s.2 = false ∧ s.1 = []) := by
      rintro ⟨h1, h2⟩
      rw [h1, h2] at hc
      simp at hc
    simp -implicitDefEqProofs [body_eq, w_skip, w_ops, w_seq, w_cond, w_block, w_exit, w_ret, q_then_n, q_then_e, q_then_r, q_blk_n, q_blk_e, q_blk_r, q_ops, q_cont, q_end_n, q_end_r, q_end_e, q_loop_n, q_loop_e, q_loop_r, i_nil, i_p, i_alloc, i_box, i_store, i_copy, i_clear, i_make, i_call, i_callv, i_when, t_nil, t_p, t_call, t_alloc, t_box, t_store, kept_nil, t_copy, t_clear, t_make, q_tcont, gsel, List.cons_append, List.nil_append, evalP, evalE, Opd.ev, Env.get, Env.set, Env.pick, putE, initEnv, evalBin, intBin, evalUn, evalConv, goneAll, goneOne, retV, resAll, Res.ev, tupOf, byVals, byValsN, bv_d, bv_da, bv_fl, bv_tl, bn_d, bn_da, bn_fl, bn_tl, cx, Dn.newObj, St.place, St.push, St.spot, St.empty, cell_d, cell_da, cell_agg, cell_ref, cell_sl, cell_fl, cell_tl, cell_map, cell_fn, cell_ifc, loadAt, faddrV, partOf, extractV, mkAgg, ofD, splice, St.setObj, fillV, room_zero, hno, c7_k7]
    exact again_nil _ _ .any .any
  | true =>
    simp at hc
    have hbL : L = b := by
      have := hput hc.1
      rw [hc.2, List.append_nil] at this
      exact this
    subst hbL
    obtain ⟨d1, d2, d3, d4, d5⟩ := hw.app.lv.dv σ
    simp -implicitDefEqProofs [body_eq, w_skip, w_ops, w_seq, w_cond, w_block, w_exit, w_ret, q_then_n, q_then_e, q_then_r, q_blk_n, q_blk_e, q_blk_r, q_ops, q_cont, q_end_n, q_end_r, q_end_e, q_loop_n, q_loop_e, q_loop_r, i_nil, i_p, i_alloc, i_box, i_store, i_copy, i_clear, i_make, i_call, i_callv, i_when, t_nil, t_p, t_call, t_alloc, t_box, t_store, kept_nil, t_copy, t_clear, t_make, q_tcont, gsel, List.cons_append, List.nil_append, evalP, evalE, Opd.ev, Env.get, Env.set, Env.pick, putE, initEnv, evalBin, intBin, evalUn, evalConv, goneAll, goneOne, retV, resAll, Res.ev, tupOf, byVals, byValsN, bv_d, bv_da, bv_fl, bv_tl, bn_d, bn_da, bn_fl, bn_tl, cx, Dn.newObj, St.place, St.push, St.spot, St.empty, cell_d, cell_da, cell_agg, cell_ref, cell_sl, cell_fl, cell_tl, cell_map, cell_fn, cell_ifc, loadAt, faddrV, partOf, extractV, mkAgg, ofD, splice, St.setObj, fillV, room_zero]
    refine use_rdN rfl (fun σ3 ha => s_Bytes ⟨(ha.1 _ hro).trans hw.obj, hw.app.toks ha.2⟩ (by omega)) ?_
    simp -implicitDefEqProofs [body_eq, w_skip, w_ops, w_seq, w_cond, w_block, w_exit, w_ret, q_then_n, q_then_e, q_then_r, q_blk_n, q_blk_e, q_blk_r, q_ops, q_cont, q_end_n, q_end_r, q_end_e, q_loop_n, q_loop_e, q_loop_r, i_nil, i_p, i_alloc, i_box, i_store, i_copy, i_clear, i_make, i_call, i_callv, i_when, t_nil, t_p, t_call, t_alloc, t_box, t_store, kept_nil, t_copy, t_clear, t_make, q_tcont, gsel, List.cons_append, List.nil_append, evalP, evalE, Opd.ev, Env.get, Env.set, Env.pick, putE, initEnv, evalBin, intBin, evalUn, evalConv, goneAll, goneOne, retV, resAll, Res.ev, tupOf, byVals, byValsN, bv_d, bv_da, bv_fl, bv_tl, bn_d, bn_da, bn_fl, bn_tl, cx, Dn.newObj, St.place, St.push, St.spot, St.empty, cell_d, cell_da, cell_agg, cell_ref, cell_sl, cell_fl, cell_tl, cell_map, cell_fn, cell_ifc, loadAt, faddrV, partOf, extractV, mkAgg, ofD, splice, St.setObj, fillV, room_zero, d2.rows _, hx.rows _, rowBytes_byteRows, strBin_ne, c7_k7]
    exact again_nil _ _ .any .any

theorem law7 {x y : D} (hx : (Lk.list [.int .u8]).fits x) (hy : (Lk.list thingK).fits y) : Dn.Call Γ cx .val 7 [.d x, .d y] St.empty fun r _ => r = B true := by
  obtain ⟨l, hl, h⟩ := things_fit hy
  obtain ⟨b, hb⟩ := bytes_fit hx
  exact s7 hb h hl

end Go.Proofs.Ytjkedjjahjlmfaa.T

namespace Go.Proofs.Ytjkedjjahjlmfaa.T
open Go.Dn
set_option linter.unusedSimpArgs false
set_option linter.unusedVariables false

/-! what was put is read -/
theorem valB_low (n : Int) (hn : 0 ≤ n) : ∀ k : Nat, (valB (low n k) : Int) = n % 256 ^ k
  | 0 => by simp [low, valB, Int.emod_one]
  | k + 1 => by
    rw [low_succ, valB_app, low_len]
    have ih := valB_low n hn k
    have hb := byteAt_nat n k
    have hp : (2 : Int) ^ (8 * k) = 256 ^ k := by rw [Int.pow_mul]; rfl
    rw [hp] at hb
    have h1 : ((valB (low n k) + 256 ^ k * (byteAt n k).toNat : Nat) : Int) = (valB (low n k) : Int) + 256 ^ k * ((byteAt n k).toNat : Int) := by rw [Int.natCast_add, Int.natCast_mul, Int.natCast_pow]; rfl
    rw [h1, ih, hb, Int.pow_succ]
    generalize hM : (256 : Int) ^ k = M
    have hM0 : 0 < M := by rw [← hM]; exact Int.pow_pos (by decide)
    have hdd : n / (M * 256) = n / M / 256 := by rw [Int.ediv_ediv, if_neg (by omega)]; omega
    rw [Int.emod_def n (M * 256), Int.emod_def n M, Int.emod_def (n / M) 256, hdd]
    generalize n / M = q
    generalize q / 256 = r
    rw [Int.mul_sub, Int.mul_assoc]
    omega

theorem numS_of {n : Int} (hn : 0 ≤ n) {size : Int} (hs : sized size = true) (rest : List UInt8) : numS (low n size.toNat ++ rest, false) size = (n % 256 ^ size.toNat, (rest, false)) := by
  have h0 := sized_inv hs
  unfold numS
  rw [if_pos hs]
  have hno : noNext (low n size.toNat ++ rest, false) size = false := by
    simp [noNext, low_len]
    omega
  have hl : (low n size.toNat).length = size.toNat := low_len _ _
  simp only [nextS, hno]
  simp [List.take_append, List.drop_append, hl, List.take_of_length_le (Nat.le_of_eq hl), List.drop_of_length_le (Nat.le_of_eq hl), valB_low n hn]

theorem countS_of {m : Int} (h0 : 0 ≤ m) {most : Int} (hm : m ≤ most) (hm2 : most ≤ 9223372036854775807) (rest : List UInt8) : countS (countB m ++ rest, false) most = (m, (rest, false)) := by
  have s1 : sized 1 = true := rfl
  have key : countN (countB m ++ rest, false) = (m, (rest, false)) := by
    unfold countN countB
    rw [if_neg (by omega : ¬ m < 0)]
    by_cases a1 : m ≤ 252
    · rw [if_pos a1]
      have e := numS_of h0 (size := 1) s1 rest
      have em : m % 256 ^ (1 : Int).toNat = m := by
        have : (256 : Int) ^ (1 : Int).toNat = 256 := rfl
        rw [this]; omega
      rw [em] at e
      have e1 : (1 : Int).toNat = 1 := rfl
      rw [e1] at e
      rw [e]
      have hz : ¬ sizeV m > 0 := by unfold sizeV; (repeat' split) <;> omega
      simp only [hz, if_false]
    rw [if_neg a1]
    have step : ∀ (c z : Int), 0 ≤ c → c ≤ 255 → sizeV c = z → sized z = true → mark m = c → m < 256 ^ z.toNat → (let p := numS (UInt8.ofNat c.toNat :: low m z.toNat ++ rest, false) 1; if sizeV p.1 > 0 then (let q := numS p.2 (sizeV p.1); (q.1, if mark q.1 = p.1 then q.2 else wrongS)) else p) = (m, (rest, false)) := by
      intro c z hc0 hc1 hcz hz hmk hlt
      have el : UInt8.ofNat c.toNat :: low m z.toNat ++ rest = low c 1 ++ (low m z.toNat ++ rest) := by
        have : low c 1 = [UInt8.ofNat c.toNat] := by
          simp only [low, List.range_one, List.map_cons, List.map_nil, List.cons.injEq, and_true]
          apply UInt8.toNat_inj.1
          have := byteAt_nat c 0
          simp only [Nat.mul_zero, Int.pow_zero, Int.ediv_one] at this
          rw [UInt8.toNat_ofNat']
          omega
        rw [this]; rfl
      have e := numS_of hc0 (size := 1) s1 (low m z.toNat ++ rest)
      have em : c % 256 ^ (1 : Int).toNat = c := by
        have : (256 : Int) ^ (1 : Int).toNat = 256 := rfl
        rw [this]; omega
      have e1 : (1 : Int).toNat = 1 := rfl
      rw [em, e1] at e
      rw [el, e]
      have hpos : z > 0 := by have := sized_inv hz; omega
      simp only [hcz, hpos, if_true]
      rw [numS_of h0 hz rest]
      have em2 : m % 256 ^ z.toNat = m := Int.emod_eq_of_lt h0 hlt
      simp only [em2, hmk, if_true]
    by_cases a2 : m ≤ 65535
    · rw [if_pos a2]
      exact step 253 2 (by omega) (by omega) rfl rfl (by unfold mark; rw [if_neg (by omega), if_pos a2]) (by have : (256 : Int) ^ (2 : Int).toNat = 65536 := rfl; omega)
    rw [if_neg a2]
    by_cases a3 : m ≤ 4294967295
    · rw [if_pos a3]
      exact step 254 4 (by omega) (by omega) rfl rfl (by unfold mark; rw [if_neg (by omega), if_neg a2, if_pos a3]) (by have : (256 : Int) ^ (4 : Int).toNat = 4294967296 := rfl; omega)
    · rw [if_neg a3]
      exact step 255 8 (by omega) (by omega) rfl rfl (by unfold mark; rw [if_neg (by omega), if_neg a2, if_neg a3]) (by have : (256 : Int) ^ (8 : Int).toNat = 18446744073709551616 := rfl; omega)
  unfold countS
  rw [key]
  have : countBad (m, (rest, false)) most = false := by simp [countBad]; omega
  simp [this]

theorem nextS_of {x rest : List UInt8} : nextS (x ++ rest, false) x.length = (x, (rest, false)) := by
  have : noNext (x ++ rest, false) x.length = false := by simp [noNext]; omega
  simp [nextS, this]

end Go.Proofs.Ytjkedjjahjlmfaa.T

namespace Go.Proofs.Ytjkedjjahjlmfaa.T
open Go.Dn
set_option linter.unusedSimpArgs false
set_option linter.unusedVariables false

theorem wrap_u64' (n : Int) : IntKind.u64.wrap n = n % 18446744073709551616 := by
  simp [IntKind.wrap, IntKind.signed, IntKind.bits]

/-- The size that a thing's number is put with. -/
def TG.sz (t : TG) : Int := if t.size % 4 = 0 then 1 else if t.size % 4 = 1 then 2 else if t.size % 4 = 2 then 4 else 8

theorem TG.sz_ok (t : TG) : sized t.sz = true := by
  unfold TG.sz
  (repeat' split) <;> rfl
theorem TG.sz_shl (t : TG) : shiftBin .shl .i64 1 ((IntKind.u64.wrap t.size).tmod 4) = some (I t.sz) := by
  have hw : (IntKind.u64.wrap t.size).tmod 4 = t.size % 4 := by
    rw [wrap_u64', tmod_nonneg (by omega)]
    omega
  rw [hw]
  unfold TG.sz
  have h4 : t.size % 4 = 0 ∨ t.size % 4 = 1 ∨ t.size % 4 = 2 ∨ t.size % 4 = 3 := by omega
  rcases h4 with h | h | h | h <;> rw [h] <;> rfl

/-- The bytes that a thing puts. -/
def TG.pb (t : TG) : List UInt8 := if t.kind = 0 then numB t.n t.sz else if t.kind = 1 then countB (t.n / 2) else if t.kind = 2 then countB t.s.length ++ t.s else t.h
theorem TG.pb_len (t : TG) (h : t.Ok) (hs : t.s.length ≤ 3000) : t.pb.length ≤ 4000 := by
  unfold TG.pb
  split
  · have := numB_len t.n t.sz; omega
  split
  · have := countB_len (t.n / 2); omega
  split
  · have := countB_len t.s.length; simp only [List.length_append]; omega
  · rw [h.h]; omega

theorem shr1 (n : Int) : shiftBin .shr .u64 n 1 = some (U (n / 2)) := by
  simp [shiftBin, IntKind.bits]

theorem backput_step {σ : St} {r q : Nat} {w : V} {L : List UInt8} {t : TG} (h : OutAt σ r L w) (hL : L.length ≤ 1000000) (hq : σ.objs[q]? = some (.cells t.cells)) (hqr : q ≠ r) (ht : t.Ok) (hs : t.s.length ≤ 3000) {Q : PostC} {x y len i : V}
    (hQ : ∀ σ' w', Put σ r w (L ++ t.pb) σ' w' → Q .normal [(0, x), (3, .ref r 0), (17, y), (18, len), (19, i), (121, .any)] σ') :
    wcode (Dn.Call Γ cx) cx c6_k32 [(0, x), (3, .ref r 0), (5, .ref q 0), (17, y), (18, len), (19, i), (121, .any)] σ Q := by
  simp only [c6_k32]
  simp -implicitDefEqProofs [body_eq, w_skip, w_ops, w_seq, w_cond, w_block, w_exit, w_ret, q_then_n, q_then_e, q_then_r, q_blk_n, q_blk_e, q_blk_r, q_ops, q_cont, q_end_n, q_end_r, q_end_e, q_loop_n, q_loop_e, q_loop_r, i_nil, i_p, i_alloc, i_box, i_store, i_copy, i_clear, i_make, i_call, i_callv, i_when, t_nil, t_p, t_call, t_alloc, t_box, t_store, kept_nil, t_copy, t_clear, t_make, q_tcont, gsel, List.cons_append, List.nil_append, evalP, evalE, Opd.ev, Env.get, Env.set, Env.pick, putE, initEnv, evalBin, intBin, evalUn, evalConv, goneAll, goneOne, retV, resAll, Res.ev, tupOf, byVals, byValsN, bv_d, bv_da, bv_fl, bv_tl, bn_d, bn_da, bn_fl, bn_tl, cx, Dn.newObj, St.place, St.push, St.spot, St.empty, cell_d, cell_da, cell_agg, cell_ref, cell_sl, cell_fl, cell_tl, cell_map, cell_fn, cell_ifc, loadAt, faddrV, partOf, extractV, mkAgg, ofD, splice, St.setObj, fillV, hq, t.c1, t.sz_shl, c6_k31, t.c0, c6_k30, c6_k29]
  by_cases h0 : t.kind = 0
  · have e : t.pb = numB t.n t.sz := by simp [TG.pb, h0]
    rw [e] at hQ
    simp -implicitDefEqProofs [body_eq, w_skip, w_ops, w_seq, w_cond, w_block, w_exit, w_ret, q_then_n, q_then_e, q_then_r, q_blk_n, q_blk_e, q_blk_r, q_ops, q_cont, q_end_n, q_end_r, q_end_e, q_loop_n, q_loop_e, q_loop_r, i_nil, i_p, i_alloc, i_box, i_store, i_copy, i_clear, i_make, i_call, i_callv, i_when, t_nil, t_p, t_call, t_alloc, t_box, t_store, kept_nil, t_copy, t_clear, t_make, q_tcont, gsel, List.cons_append, List.nil_append, evalP, evalE, Opd.ev, Env.get, Env.set, Env.pick, putE, initEnv, evalBin, intBin, evalUn, evalConv, goneAll, goneOne, retV, resAll, Res.ev, tupOf, byVals, byValsN, bv_d, bv_da, bv_fl, bv_tl, bn_d, bn_da, bn_fl, bn_tl, cx, Dn.newObj, St.place, St.push, St.spot, St.empty, cell_d, cell_da, cell_agg, cell_ref, cell_sl, cell_fl, cell_tl, cell_map, cell_fn, cell_ifc, loadAt, faddrV, partOf, extractV, mkAgg, ofD, splice, St.setObj, fillV, h0, c6_k28, hq, t.c2]
    refine use_raw (s_Num h (by omega) t.n t.sz) fun z σ1 ⟨v', h1⟩ => ?_
    simp -implicitDefEqProofs [body_eq, w_skip, w_ops, w_seq, w_cond, w_block, w_exit, w_ret, q_then_n, q_then_e, q_then_r, q_blk_n, q_blk_e, q_blk_r, q_ops, q_cont, q_end_n, q_end_r, q_end_e, q_loop_n, q_loop_e, q_loop_r, i_nil, i_p, i_alloc, i_box, i_store, i_copy, i_clear, i_make, i_call, i_callv, i_when, t_nil, t_p, t_call, t_alloc, t_box, t_store, kept_nil, t_copy, t_clear, t_make, q_tcont, gsel, List.cons_append, List.nil_append, evalP, evalE, Opd.ev, Env.get, Env.set, Env.pick, putE, initEnv, evalBin, intBin, evalUn, evalConv, goneAll, goneOne, retV, resAll, Res.ev, tupOf, byVals, byValsN, bv_d, bv_da, bv_fl, bv_tl, bn_d, bn_da, bn_fl, bn_tl, cx, Dn.newObj, St.place, St.push, St.spot, St.empty, cell_d, cell_da, cell_agg, cell_ref, cell_sl, cell_fl, cell_tl, cell_map, cell_fn, cell_ifc, loadAt, faddrV, partOf, extractV, mkAgg, ofD, splice, St.setObj, fillV]
    exact hQ _ _ h1
  by_cases h1 : t.kind = 1
  · have e : t.pb = countB (t.n / 2) := by simp [TG.pb, h0, h1]
    rw [e] at hQ
    have hn := ht.n
    simp -implicitDefEqProofs [body_eq, w_skip, w_ops, w_seq, w_cond, w_block, w_exit, w_ret, q_then_n, q_then_e, q_then_r, q_blk_n, q_blk_e, q_blk_r, q_ops, q_cont, q_end_n, q_end_r, q_end_e, q_loop_n, q_loop_e, q_loop_r, i_nil, i_p, i_alloc, i_box, i_store, i_copy, i_clear, i_make, i_call, i_callv, i_when, t_nil, t_p, t_call, t_alloc, t_box, t_store, kept_nil, t_copy, t_clear, t_make, q_tcont, gsel, List.cons_append, List.nil_append, evalP, evalE, Opd.ev, Env.get, Env.set, Env.pick, putE, initEnv, evalBin, intBin, evalUn, evalConv, goneAll, goneOne, retV, resAll, Res.ev, tupOf, byVals, byValsN, bv_d, bv_da, bv_fl, bv_tl, bn_d, bn_da, bn_fl, bn_tl, cx, Dn.newObj, St.place, St.push, St.spot, St.empty, cell_d, cell_da, cell_agg, cell_ref, cell_sl, cell_fl, cell_tl, cell_map, cell_fn, cell_ifc, loadAt, faddrV, partOf, extractV, mkAgg, ofD, splice, St.setObj, fillV, h0, h1, c6_k28, c6_k27, c6_k26, hq, t.c2, shr1, wrap_i64 (n := t.n / 2) (by omega) (by omega)]
    refine use_raw (s_Count h (by omega) (t.n / 2) (by omega)) fun z σ1 ⟨v', h1⟩ => ?_
    simp -implicitDefEqProofs [body_eq, w_skip, w_ops, w_seq, w_cond, w_block, w_exit, w_ret, q_then_n, q_then_e, q_then_r, q_blk_n, q_blk_e, q_blk_r, q_ops, q_cont, q_end_n, q_end_r, q_end_e, q_loop_n, q_loop_e, q_loop_r, i_nil, i_p, i_alloc, i_box, i_store, i_copy, i_clear, i_make, i_call, i_callv, i_when, t_nil, t_p, t_call, t_alloc, t_box, t_store, kept_nil, t_copy, t_clear, t_make, q_tcont, gsel, List.cons_append, List.nil_append, evalP, evalE, Opd.ev, Env.get, Env.set, Env.pick, putE, initEnv, evalBin, intBin, evalUn, evalConv, goneAll, goneOne, retV, resAll, Res.ev, tupOf, byVals, byValsN, bv_d, bv_da, bv_fl, bv_tl, bn_d, bn_da, bn_fl, bn_tl, cx, Dn.newObj, St.place, St.push, St.spot, St.empty, cell_d, cell_da, cell_agg, cell_ref, cell_sl, cell_fl, cell_tl, cell_map, cell_fn, cell_ifc, loadAt, faddrV, partOf, extractV, mkAgg, ofD, splice, St.setObj, fillV]
    exact hQ _ _ h1
  by_cases h2 : t.kind = 2
  · have e : t.pb = countB t.s.length ++ t.s := by simp [TG.pb, h0, h1, h2]
    rw [e] at hQ
    simp -implicitDefEqProofs [body_eq, w_skip, w_ops, w_seq, w_cond, w_block, w_exit, w_ret, q_then_n, q_then_e, q_then_r, q_blk_n, q_blk_e, q_blk_r, q_ops, q_cont, q_end_n, q_end_r, q_end_e, q_loop_n, q_loop_e, q_loop_r, i_nil, i_p, i_alloc, i_box, i_store, i_copy, i_clear, i_make, i_call, i_callv, i_when, t_nil, t_p, t_call, t_alloc, t_box, t_store, kept_nil, t_copy, t_clear, t_make, q_tcont, gsel, List.cons_append, List.nil_append, evalP, evalE, Opd.ev, Env.get, Env.set, Env.pick, putE, initEnv, evalBin, intBin, evalUn, evalConv, goneAll, goneOne, retV, resAll, Res.ev, tupOf, byVals, byValsN, bv_d, bv_da, bv_fl, bv_tl, bn_d, bn_da, bn_fl, bn_tl, cx, Dn.newObj, St.place, St.push, St.spot, St.empty, cell_d, cell_da, cell_agg, cell_ref, cell_sl, cell_fl, cell_tl, cell_map, cell_fn, cell_ifc, loadAt, faddrV, partOf, extractV, mkAgg, ofD, splice, St.setObj, fillV, h0, h1, h2, c6_k28, c6_k27, c6_k26, c6_k25, c6_k24, hq, t.c3]
    refine use_raw (s_Text h (by omega) t.s (by omega)) fun z σ1 ⟨v', h1⟩ => ?_
    simp -implicitDefEqProofs [body_eq, w_skip, w_ops, w_seq, w_cond, w_block, w_exit, w_ret, q_then_n, q_then_e, q_then_r, q_blk_n, q_blk_e, q_blk_r, q_ops, q_cont, q_end_n, q_end_r, q_end_e, q_loop_n, q_loop_e, q_loop_r, i_nil, i_p, i_alloc, i_box, i_store, i_copy, i_clear, i_make, i_call, i_callv, i_when, t_nil, t_p, t_call, t_alloc, t_box, t_store, kept_nil, t_copy, t_clear, t_make, q_tcont, gsel, List.cons_append, List.nil_append, evalP, evalE, Opd.ev, Env.get, Env.set, Env.pick, putE, initEnv, evalBin, intBin, evalUn, evalConv, goneAll, goneOne, retV, resAll, Res.ev, tupOf, byVals, byValsN, bv_d, bv_da, bv_fl, bv_tl, bn_d, bn_da, bn_fl, bn_tl, cx, Dn.newObj, St.place, St.push, St.spot, St.empty, cell_d, cell_da, cell_agg, cell_ref, cell_sl, cell_fl, cell_tl, cell_map, cell_fn, cell_ifc, loadAt, faddrV, partOf, extractV, mkAgg, ofD, splice, St.setObj, fillV]
    exact hQ _ _ h1
  · have e : t.pb = t.h := by simp [TG.pb, h0, h1, h2]
    rw [e] at hQ
    have hdl : (hd t.h).length = 32 := by rw [hd_len, ht.h]
    have hcl := TG.cells_len ht
    have htk : List.take 32 (List.map V.d (hd t.h)) = List.map V.d (hd t.h) := List.take_of_length_le (by simp [hdl])
    simp -implicitDefEqProofs [body_eq, w_skip, w_ops, w_seq, w_cond, w_block, w_exit, w_ret, q_then_n, q_then_e, q_then_r, q_blk_n, q_blk_e, q_blk_r, q_ops, q_cont, q_end_n, q_end_r, q_end_e, q_loop_n, q_loop_e, q_loop_r, i_nil, i_p, i_alloc, i_box, i_store, i_copy, i_clear, i_make, i_call, i_callv, i_when, t_nil, t_p, t_call, t_alloc, t_box, t_store, kept_nil, t_copy, t_clear, t_make, q_tcont, gsel, List.cons_append, List.nil_append, evalP, evalE, Opd.ev, Env.get, Env.set, Env.pick, putE, initEnv, evalBin, intBin, evalUn, evalConv, goneAll, goneOne, retV, resAll, Res.ev, tupOf, byVals, byValsN, bv_d, bv_da, bv_fl, bv_tl, bn_d, bn_da, bn_fl, bn_tl, cx, Dn.newObj, St.place, St.push, St.spot, St.empty, cell_d, cell_da, cell_agg, cell_ref, cell_sl, cell_fl, cell_tl, cell_map, cell_fn, cell_ifc, loadAt, faddrV, partOf, extractV, mkAgg, ofD, splice, St.setObj, fillV, h0, h1, h2, c6_k28, c6_k27, c6_k26, c6_k25, c6_k24, hq, t.c4, hcl, htk, ofD_hd]
    refine use_raw (s_Hash h (by omega) t.h ht.h) fun z σ1 ⟨v', h1⟩ => ?_
    simp -implicitDefEqProofs [body_eq, w_skip, w_ops, w_seq, w_cond, w_block, w_exit, w_ret, q_then_n, q_then_e, q_then_r, q_blk_n, q_blk_e, q_blk_r, q_ops, q_cont, q_end_n, q_end_r, q_end_e, q_loop_n, q_loop_e, q_loop_r, i_nil, i_p, i_alloc, i_box, i_store, i_copy, i_clear, i_make, i_call, i_callv, i_when, t_nil, t_p, t_call, t_alloc, t_box, t_store, kept_nil, t_copy, t_clear, t_make, q_tcont, gsel, List.cons_append, List.nil_append, evalP, evalE, Opd.ev, Env.get, Env.set, Env.pick, putE, initEnv, evalBin, intBin, evalUn, evalConv, goneAll, goneOne, retV, resAll, Res.ev, tupOf, byVals, byValsN, bv_d, bv_da, bv_fl, bv_tl, bn_d, bn_da, bn_fl, bn_tl, cx, Dn.newObj, St.place, St.push, St.spot, St.empty, cell_d, cell_da, cell_agg, cell_ref, cell_sl, cell_fl, cell_tl, cell_map, cell_fn, cell_ifc, loadAt, faddrV, partOf, extractV, mkAgg, ofD, splice, St.setObj, fillV]
    exact hQ _ _ h1

theorem num_sh (n : Int) (h0 : 0 ≤ n) (h1 : n ≤ 18446744073709551615) (t : TG) : IntKind.u64.wrap (n * 2 ^ (min (64 - 8 * t.sz).toNat 64)) / 2 ^ (min (64 - 8 * t.sz).toNat 64) = n % 256 ^ t.sz.toNat := by
  rw [wrap_u64']
  have h := sized_inv t.sz_ok
  rcases h with h | h | h | h <;> rw [h] <;> simp <;> omega

theorem backget_step {σ : St} {r q : Nat} {t : TG} {v : V} {rest : List UInt8} (h : InAt σ r (t.pb ++ rest, false) v) (hl : (t.pb ++ rest).length ≤ 1099511627776) (hq : σ.objs[q]? = some (.cells t.cells)) (hqr : q ≠ r) (ht : t.Ok) (hs : t.s.length ≤ 3000) {Q : PostC} {y len i : V}
    (hQ : ∀ σ' k, k = 94 ∨ k = 103 ∨ k = 113 ∨ k = 76 → Got σ r (rest, false) σ' → Q .normal [(7, .ref r 0), (59, y), (60, len), (61, i), (k, B false), (121, .any)] σ') :
    wcode (Dn.Call Γ cx) cx c6_k16 [(7, .ref r 0), (9, .ref q 0), (59, y), (60, len), (61, i), (121, .any)] σ Q := by
  simp only [c6_k16]
  simp -implicitDefEqProofs [body_eq, w_skip, w_ops, w_seq, w_cond, w_block, w_exit, w_ret, q_then_n, q_then_e, q_then_r, q_blk_n, q_blk_e, q_blk_r, q_ops, q_cont, q_end_n, q_end_r, q_end_e, q_loop_n, q_loop_e, q_loop_r, i_nil, i_p, i_alloc, i_box, i_store, i_copy, i_clear, i_make, i_call, i_callv, i_when, t_nil, t_p, t_call, t_alloc, t_box, t_store, kept_nil, t_copy, t_clear, t_make, q_tcont, gsel, List.cons_append, List.nil_append, evalP, evalE, Opd.ev, Env.get, Env.set, Env.pick, putE, initEnv, evalBin, intBin, evalUn, evalConv, goneAll, goneOne, retV, resAll, Res.ev, tupOf, byVals, byValsN, bv_d, bv_da, bv_fl, bv_tl, bn_d, bn_da, bn_fl, bn_tl, cx, Dn.newObj, St.place, St.push, St.spot, St.empty, cell_d, cell_da, cell_agg, cell_ref, cell_sl, cell_fl, cell_tl, cell_map, cell_fn, cell_ifc, loadAt, faddrV, partOf, extractV, mkAgg, ofD, splice, St.setObj, fillV, hq, t.c1, t.sz_shl, c6_k15, t.c0, c6_k14, c6_k13]
  have hql := (List.getElem?_eq_some_iff.1 hq).1
  have kp : ∀ {s' : Rd} {σ1 : St} {e : Env}, e.get 9 = .ref q 0 → Got σ r s' σ1 → ∀ ks : List Nat, (∀ k ∈ ks, k = 9) → Kept ks e σ σ1 := by
    intro s' σ1 e he hg ks hks t' ht' q' hq'
    rw [hks t' ht', he] at hq'
    simp [dref] at hq'
    subst hq'
    exact hg.fr.at_ q' (by simpa using hqr) hql
  by_cases h0 : t.kind = 0
  · have e : t.pb = numB t.n t.sz := by simp [TG.pb, h0]
    have hn : numS (t.pb ++ rest, false) t.sz = (t.n % 256 ^ t.sz.toNat, (rest, false)) := by
      rw [e]
      unfold numB
      rw [if_pos t.sz_ok]
      exact numS_of ht.n.1 t.sz_ok rest
    have h64 := sized_inv t.sz_ok
    simp -implicitDefEqProofs [body_eq, w_skip, w_ops, w_seq, w_cond, w_block, w_exit, w_ret, q_then_n, q_then_e, q_then_r, q_blk_n, q_blk_e, q_blk_r, q_ops, q_cont, q_end_n, q_end_r, q_end_e, q_loop_n, q_loop_e, q_loop_r, i_nil, i_p, i_alloc, i_box, i_store, i_copy, i_clear, i_make, i_call, i_callv, i_when, t_nil, t_p, t_call, t_alloc, t_box, t_store, kept_nil, t_copy, t_clear, t_make, q_tcont, gsel, List.cons_append, List.nil_append, evalP, evalE, Opd.ev, Env.get, Env.set, Env.pick, putE, initEnv, evalBin, intBin, evalUn, evalConv, goneAll, goneOne, retV, resAll, Res.ev, tupOf, byVals, byValsN, bv_d, bv_da, bv_fl, bv_tl, bn_d, bn_da, bn_fl, bn_tl, cx, Dn.newObj, St.place, St.push, St.spot, St.empty, cell_d, cell_da, cell_agg, cell_ref, cell_sl, cell_fl, cell_tl, cell_map, cell_fn, cell_ifc, loadAt, faddrV, partOf, extractV, mkAgg, ofD, splice, St.setObj, fillV, h0, c6_k12, c6_k2]
    refine w_drw (fun _ => .raw) [9] (by decide +kernel) ?_
    simp -implicitDefEqProofs [body_eq, w_skip, w_ops, w_seq, w_cond, w_block, w_exit, w_ret, q_then_n, q_then_e, q_then_r, q_blk_n, q_blk_e, q_blk_r, q_ops, q_cont, q_end_n, q_end_r, q_end_e, q_loop_n, q_loop_e, q_loop_r, i_nil, i_p, i_alloc, i_box, i_store, i_copy, i_clear, i_make, i_call, i_callv, i_when, t_nil, t_p, t_call, t_alloc, t_box, t_store, kept_nil, t_copy, t_clear, t_make, q_tcont, gsel, List.cons_append, List.nil_append, evalP, evalE, Opd.ev, Env.get, Env.set, Env.pick, putE, initEnv, evalBin, intBin, evalUn, evalConv, goneAll, goneOne, retV, resAll, Res.ev, tupOf, byVals, byValsN, bv_d, bv_da, bv_fl, bv_tl, bn_d, bn_da, bn_fl, bn_tl, cx, Dn.newObj, St.place, St.push, St.spot, St.empty, cell_d, cell_da, cell_agg, cell_ref, cell_sl, cell_fl, cell_tl, cell_map, cell_fn, cell_ifc, loadAt, faddrV, partOf, extractV, mkAgg, ofD, splice, St.setObj, fillV, room_zero]
    refine use_rawN rfl (s_gNum h t.sz hl) (by obtain ⟨σ', hσ'⟩ := Got.ex h (numS (t.pb ++ rest, false) t.sz).2; exact ⟨_, σ', rfl, hσ'⟩) fun z σ1 ⟨hz, hg⟩ => ⟨kp rfl hg [9] (by simp), ?_⟩
    subst hz
    have hq1 : σ1.objs[q]? = some (.cells t.cells) := hg.fr.get hq (by simpa using hqr)
    rw [hn] at hg
    have w1 : IntKind.i64.wrap (8 * t.sz) = 8 * t.sz := wrap_i64 (by omega) (by omega)
    have w2 : IntKind.i64.wrap (64 - 8 * t.sz) = 64 - 8 * t.sz := wrap_i64 (by omega) (by omega)
    have w3 : IntKind.u64.wrap (64 - 8 * t.sz) = 64 - 8 * t.sz := wrap_u64 (by omega) (by omega)
    have hc0 : ¬ (64 - 8 * t.sz < 0) := by omega
    have hsl : shiftBin .shl .u64 t.n (64 - 8 * t.sz) = some (U (IntKind.u64.wrap (t.n * 2 ^ (min (64 - 8 * t.sz).toNat 64)))) := by unfold shiftBin; rw [if_neg hc0]; rfl
    have hsr : shiftBin .shr .u64 (IntKind.u64.wrap (t.n * 2 ^ (min (64 - 8 * t.sz).toNat 64))) (64 - 8 * t.sz) = some (U (t.n % 256 ^ t.sz.toNat)) := by
      unfold shiftBin
      rw [if_neg hc0, ← num_sh t.n ht.n.1 ht.n.2 t]
      rfl
    simp -implicitDefEqProofs [body_eq, w_skip, w_ops, w_seq, w_cond, w_block, w_exit, w_ret, q_then_n, q_then_e, q_then_r, q_blk_n, q_blk_e, q_blk_r, q_ops, q_cont, q_end_n, q_end_r, q_end_e, q_loop_n, q_loop_e, q_loop_r, i_nil, i_p, i_alloc, i_box, i_store, i_copy, i_clear, i_make, i_call, i_callv, i_when, t_nil, t_p, t_call, t_alloc, t_box, t_store, kept_nil, t_copy, t_clear, t_make, q_tcont, gsel, List.cons_append, List.nil_append, evalP, evalE, Opd.ev, Env.get, Env.set, Env.pick, putE, initEnv, evalBin, intBin, evalUn, evalConv, goneAll, goneOne, retV, resAll, Res.ev, tupOf, byVals, byValsN, bv_d, bv_da, bv_fl, bv_tl, bn_d, bn_da, bn_fl, bn_tl, cx, Dn.newObj, St.place, St.push, St.spot, St.empty, cell_d, cell_da, cell_agg, cell_ref, cell_sl, cell_fl, cell_tl, cell_map, cell_fn, cell_ifc, loadAt, faddrV, partOf, extractV, mkAgg, ofD, splice, St.setObj, fillV, room_zero, hq1, t.c2, hn, w1, w2, w3, hsl, hsr, c6_k1]
    exact hQ _ _ (.inl rfl) hg
  by_cases h1 : t.kind = 1
  · have e : t.pb = countB (t.n / 2) := by simp [TG.pb, h0, h1]
    have hnn := ht.n
    have hn : countS (t.pb ++ rest, false) 9223372036854775807 = (t.n / 2, (rest, false)) := by
      rw [e]
      exact countS_of (by omega) (by omega) (by omega) rest
    simp -implicitDefEqProofs [body_eq, w_skip, w_ops, w_seq, w_cond, w_block, w_exit, w_ret, q_then_n, q_then_e, q_then_r, q_blk_n, q_blk_e, q_blk_r, q_ops, q_cont, q_end_n, q_end_r, q_end_e, q_loop_n, q_loop_e, q_loop_r, i_nil, i_p, i_alloc, i_box, i_store, i_copy, i_clear, i_make, i_call, i_callv, i_when, t_nil, t_p, t_call, t_alloc, t_box, t_store, kept_nil, t_copy, t_clear, t_make, q_tcont, gsel, List.cons_append, List.nil_append, evalP, evalE, Opd.ev, Env.get, Env.set, Env.pick, putE, initEnv, evalBin, intBin, evalUn, evalConv, goneAll, goneOne, retV, resAll, Res.ev, tupOf, byVals, byValsN, bv_d, bv_da, bv_fl, bv_tl, bn_d, bn_da, bn_fl, bn_tl, cx, Dn.newObj, St.place, St.push, St.spot, St.empty, cell_d, cell_da, cell_agg, cell_ref, cell_sl, cell_fl, cell_tl, cell_map, cell_fn, cell_ifc, loadAt, faddrV, partOf, extractV, mkAgg, ofD, splice, St.setObj, fillV, h0, h1, c6_k12, c6_k11, c6_k10, c6_k4]
    refine w_drw (fun _ => .raw) [9] (by decide +kernel) ?_
    simp -implicitDefEqProofs [body_eq, w_skip, w_ops, w_seq, w_cond, w_block, w_exit, w_ret, q_then_n, q_then_e, q_then_r, q_blk_n, q_blk_e, q_blk_r, q_ops, q_cont, q_end_n, q_end_r, q_end_e, q_loop_n, q_loop_e, q_loop_r, i_nil, i_p, i_alloc, i_box, i_store, i_copy, i_clear, i_make, i_call, i_callv, i_when, t_nil, t_p, t_call, t_alloc, t_box, t_store, kept_nil, t_copy, t_clear, t_make, q_tcont, gsel, List.cons_append, List.nil_append, evalP, evalE, Opd.ev, Env.get, Env.set, Env.pick, putE, initEnv, evalBin, intBin, evalUn, evalConv, goneAll, goneOne, retV, resAll, Res.ev, tupOf, byVals, byValsN, bv_d, bv_da, bv_fl, bv_tl, bn_d, bn_da, bn_fl, bn_tl, cx, Dn.newObj, St.place, St.push, St.spot, St.empty, cell_d, cell_da, cell_agg, cell_ref, cell_sl, cell_fl, cell_tl, cell_map, cell_fn, cell_ifc, loadAt, faddrV, partOf, extractV, mkAgg, ofD, splice, St.setObj, fillV, room_zero]
    refine use_rawN rfl (s_gCount h 9223372036854775807 (by omega) hl) (by obtain ⟨σ', hσ'⟩ := Got.ex h (countS (t.pb ++ rest, false) 9223372036854775807).2; exact ⟨_, σ', rfl, hσ'⟩) fun z σ1 ⟨hz, hg⟩ => ⟨kp rfl hg [9] (by simp), ?_⟩
    subst hz
    have hq1 : σ1.objs[q]? = some (.cells t.cells) := hg.fr.get hq (by simpa using hqr)
    rw [hn] at hg
    simp -implicitDefEqProofs [body_eq, w_skip, w_ops, w_seq, w_cond, w_block, w_exit, w_ret, q_then_n, q_then_e, q_then_r, q_blk_n, q_blk_e, q_blk_r, q_ops, q_cont, q_end_n, q_end_r, q_end_e, q_loop_n, q_loop_e, q_loop_r, i_nil, i_p, i_alloc, i_box, i_store, i_copy, i_clear, i_make, i_call, i_callv, i_when, t_nil, t_p, t_call, t_alloc, t_box, t_store, kept_nil, t_copy, t_clear, t_make, q_tcont, gsel, List.cons_append, List.nil_append, evalP, evalE, Opd.ev, Env.get, Env.set, Env.pick, putE, initEnv, evalBin, intBin, evalUn, evalConv, goneAll, goneOne, retV, resAll, Res.ev, tupOf, byVals, byValsN, bv_d, bv_da, bv_fl, bv_tl, bn_d, bn_da, bn_fl, bn_tl, cx, Dn.newObj, St.place, St.push, St.spot, St.empty, cell_d, cell_da, cell_agg, cell_ref, cell_sl, cell_fl, cell_tl, cell_map, cell_fn, cell_ifc, loadAt, faddrV, partOf, extractV, mkAgg, ofD, splice, St.setObj, fillV, room_zero, hq1, t.c2, hn, shr1, wrap_i64 (n := t.n / 2) (by omega) (by omega), c6_k3]
    exact hQ _ _ (.inr (.inl rfl)) hg
  by_cases h2 : t.kind = 2
  · have e : t.pb = countB t.s.length ++ t.s := by simp [TG.pb, h0, h1, h2]
    have hn : textS (t.pb ++ rest, false) t.s.length = (t.s, (rest, false)) := by
      unfold textS
      rw [e, List.append_assoc, countS_of (by omega) (Int.le_refl _) (by omega)]
      exact nextS_of
    simp -implicitDefEqProofs [body_eq, w_skip, w_ops, w_seq, w_cond, w_block, w_exit, w_ret, q_then_n, q_then_e, q_then_r, q_blk_n, q_blk_e, q_blk_r, q_ops, q_cont, q_end_n, q_end_r, q_end_e, q_loop_n, q_loop_e, q_loop_r, i_nil, i_p, i_alloc, i_box, i_store, i_copy, i_clear, i_make, i_call, i_callv, i_when, t_nil, t_p, t_call, t_alloc, t_box, t_store, kept_nil, t_copy, t_clear, t_make, q_tcont, gsel, List.cons_append, List.nil_append, evalP, evalE, Opd.ev, Env.get, Env.set, Env.pick, putE, initEnv, evalBin, intBin, evalUn, evalConv, goneAll, goneOne, retV, resAll, Res.ev, tupOf, byVals, byValsN, bv_d, bv_da, bv_fl, bv_tl, bn_d, bn_da, bn_fl, bn_tl, cx, Dn.newObj, St.place, St.push, St.spot, St.empty, cell_d, cell_da, cell_agg, cell_ref, cell_sl, cell_fl, cell_tl, cell_map, cell_fn, cell_ifc, loadAt, faddrV, partOf, extractV, mkAgg, ofD, splice, St.setObj, fillV, h0, h1, h2, c6_k12, c6_k11, c6_k10, c6_k9, c6_k8, c6_k6]
    refine w_drw (fun _ => .raw) [9, 9] (by decide +kernel) ?_
    simp -implicitDefEqProofs [body_eq, w_skip, w_ops, w_seq, w_cond, w_block, w_exit, w_ret, q_then_n, q_then_e, q_then_r, q_blk_n, q_blk_e, q_blk_r, q_ops, q_cont, q_end_n, q_end_r, q_end_e, q_loop_n, q_loop_e, q_loop_r, i_nil, i_p, i_alloc, i_box, i_store, i_copy, i_clear, i_make, i_call, i_callv, i_when, t_nil, t_p, t_call, t_alloc, t_box, t_store, kept_nil, t_copy, t_clear, t_make, q_tcont, gsel, List.cons_append, List.nil_append, evalP, evalE, Opd.ev, Env.get, Env.set, Env.pick, putE, initEnv, evalBin, intBin, evalUn, evalConv, goneAll, goneOne, retV, resAll, Res.ev, tupOf, byVals, byValsN, bv_d, bv_da, bv_fl, bv_tl, bn_d, bn_da, bn_fl, bn_tl, cx, Dn.newObj, St.place, St.push, St.spot, St.empty, cell_d, cell_da, cell_agg, cell_ref, cell_sl, cell_fl, cell_tl, cell_map, cell_fn, cell_ifc, loadAt, faddrV, partOf, extractV, mkAgg, ofD, splice, St.setObj, fillV, room_zero, hq, t.c3, lenT]
    refine use_rawN rfl (s_gText h t.s.length (by omega) hl) (by obtain ⟨σ', hσ'⟩ := Got.ex h (textS (t.pb ++ rest, false) t.s.length).2; exact ⟨_, σ', rfl, hσ'⟩) fun z σ1 ⟨hz, hg⟩ => ⟨kp rfl hg [9, 9] (by simp), ?_⟩
    subst hz
    have hq1 : σ1.objs[q]? = some (.cells t.cells) := hg.fr.get hq (by simpa using hqr)
    rw [hn] at hg
    simp -implicitDefEqProofs [body_eq, w_skip, w_ops, w_seq, w_cond, w_block, w_exit, w_ret, q_then_n, q_then_e, q_then_r, q_blk_n, q_blk_e, q_blk_r, q_ops, q_cont, q_end_n, q_end_r, q_end_e, q_loop_n, q_loop_e, q_loop_r, i_nil, i_p, i_alloc, i_box, i_store, i_copy, i_clear, i_make, i_call, i_callv, i_when, t_nil, t_p, t_call, t_alloc, t_box, t_store, kept_nil, t_copy, t_clear, t_make, q_tcont, gsel, List.cons_append, List.nil_append, evalP, evalE, Opd.ev, Env.get, Env.set, Env.pick, putE, initEnv, evalBin, intBin, evalUn, evalConv, goneAll, goneOne, retV, resAll, Res.ev, tupOf, byVals, byValsN, bv_d, bv_da, bv_fl, bv_tl, bn_d, bn_da, bn_fl, bn_tl, cx, Dn.newObj, St.place, St.push, St.spot, St.empty, cell_d, cell_da, cell_agg, cell_ref, cell_sl, cell_fl, cell_tl, cell_map, cell_fn, cell_ifc, loadAt, faddrV, partOf, extractV, mkAgg, ofD, splice, St.setObj, fillV, room_zero, hq1, t.c3, hn, strBin_ne, c6_k5]
    exact hQ _ _ (.inr (.inr (.inl rfl))) hg
  · have e : t.pb = t.h := by simp [TG.pb, h0, h1, h2]
    have hn : hashS (t.pb ++ rest, false) = (t.h, (rest, false)) := by
      unfold hashS
      have := nextS_of (x := t.h) (rest := rest)
      rw [ht.h] at this
      rw [e, show ((32 : Int)) = ((32 : Nat) : Int) from rfl, this]
      simp only [Prod.mk.injEq, and_true]
      rw [List.take_append, List.take_of_length_le (by rw [ht.h]; exact Nat.le_refl _), ht.h]
      simp
    have hdl : (hd t.h).length = 32 := by rw [hd_len, ht.h]
    have hcl := TG.cells_len ht
    have htk : List.take 32 (List.map V.d (hd t.h)) = List.map V.d (hd t.h) := List.take_of_length_le (by simp [hdl])
    have hfa : fitsAll (List.replicate 32 (.int .u8)) (hd t.h) = true := by rw [← ht.h]; exact fits_hd _
    simp -implicitDefEqProofs [body_eq, w_skip, w_ops, w_seq, w_cond, w_block, w_exit, w_ret, q_then_n, q_then_e, q_then_r, q_blk_n, q_blk_e, q_blk_r, q_ops, q_cont, q_end_n, q_end_r, q_end_e, q_loop_n, q_loop_e, q_loop_r, i_nil, i_p, i_alloc, i_box, i_store, i_copy, i_clear, i_make, i_call, i_callv, i_when, t_nil, t_p, t_call, t_alloc, t_box, t_store, kept_nil, t_copy, t_clear, t_make, q_tcont, gsel, List.cons_append, List.nil_append, evalP, evalE, Opd.ev, Env.get, Env.set, Env.pick, putE, initEnv, evalBin, intBin, evalUn, evalConv, goneAll, goneOne, retV, resAll, Res.ev, tupOf, byVals, byValsN, bv_d, bv_da, bv_fl, bv_tl, bn_d, bn_da, bn_fl, bn_tl, cx, Dn.newObj, St.place, St.push, St.spot, St.empty, cell_d, cell_da, cell_agg, cell_ref, cell_sl, cell_fl, cell_tl, cell_map, cell_fn, cell_ifc, loadAt, faddrV, partOf, extractV, mkAgg, ofD, splice, St.setObj, fillV, -List.reduceReplicate, h0, h1, h2, c6_k12, c6_k11, c6_k10, c6_k9, c6_k8]
    refine w_drw (fun _ => .raw) [9] (by decide +kernel) ?_
    simp -implicitDefEqProofs [body_eq, w_skip, w_ops, w_seq, w_cond, w_block, w_exit, w_ret, q_then_n, q_then_e, q_then_r, q_blk_n, q_blk_e, q_blk_r, q_ops, q_cont, q_end_n, q_end_r, q_end_e, q_loop_n, q_loop_e, q_loop_r, i_nil, i_p, i_alloc, i_box, i_store, i_copy, i_clear, i_make, i_call, i_callv, i_when, t_nil, t_p, t_call, t_alloc, t_box, t_store, kept_nil, t_copy, t_clear, t_make, q_tcont, gsel, List.cons_append, List.nil_append, evalP, evalE, Opd.ev, Env.get, Env.set, Env.pick, putE, initEnv, evalBin, intBin, evalUn, evalConv, goneAll, goneOne, retV, resAll, Res.ev, tupOf, byVals, byValsN, bv_d, bv_da, bv_fl, bv_tl, bn_d, bn_da, bn_fl, bn_tl, cx, Dn.newObj, St.place, St.push, St.spot, St.empty, cell_d, cell_da, cell_agg, cell_ref, cell_sl, cell_fl, cell_tl, cell_map, cell_fn, cell_ifc, loadAt, faddrV, partOf, extractV, mkAgg, ofD, splice, St.setObj, fillV, -List.reduceReplicate, room_zero]
    refine use_rawN rfl (s_gHash h hl) (by obtain ⟨σ', hσ'⟩ := Got.ex h (hashS (t.pb ++ rest, false)).2; exact ⟨_, σ', rfl, hσ'⟩) fun z σ1 ⟨hz, hg⟩ => ⟨kp rfl hg [9] (by simp), ?_⟩
    subst hz
    have hq1 : σ1.objs[q]? = some (.cells t.cells) := hg.fr.get hq (by simpa using hqr)
    rw [hn] at hg
    simp -implicitDefEqProofs [body_eq, w_skip, w_ops, w_seq, w_cond, w_block, w_exit, w_ret, q_then_n, q_then_e, q_then_r, q_blk_n, q_blk_e, q_blk_r, q_ops, q_cont, q_end_n, q_end_r, q_end_e, q_loop_n, q_loop_e, q_loop_r, i_nil, i_p, i_alloc, i_box, i_store, i_copy, i_clear, i_make, i_call, i_callv, i_when, t_nil, t_p, t_call, t_alloc, t_box, t_store, kept_nil, t_copy, t_clear, t_make, q_tcont, gsel, List.cons_append, List.nil_append, evalP, evalE, Opd.ev, Env.get, Env.set, Env.pick, putE, initEnv, evalBin, intBin, evalUn, evalConv, goneAll, goneOne, retV, resAll, Res.ev, tupOf, byVals, byValsN, bv_d, bv_da, bv_fl, bv_tl, bn_d, bn_da, bn_fl, bn_tl, cx, Dn.newObj, St.place, St.push, St.spot, St.empty, cell_d, cell_da, cell_agg, cell_ref, cell_sl, cell_fl, cell_tl, cell_map, cell_fn, cell_ifc, loadAt, faddrV, partOf, extractV, mkAgg, ofD, splice, St.setObj, fillV, -List.reduceReplicate, room_zero, hq1, t.c4, hcl, htk, ofD_hd, hn, eqV, hfa, c6_k7]
    exact hQ _ _ (.inr (.inr (.inr rfl))) hg

def allB (l : List TG) : List UInt8 := l.flatMap TG.pb

def InvBack1 (y : D) (l : List TG) (m : Nat) (e : Env) (σ : St) : Prop := ∃ (i : Nat) (w : V), e = [(0, .d y), (3, .ref 0 0), (17, .d y), (18, I l.length), (19, I i), (121, .any)] ∧ i ≤ l.length ∧ m = l.length - i ∧ OutAt σ 0 (allB (l.take i)) w ∧ (allB (l.take i)).length ≤ i * 4000

def InvBack2 (y : D) (l : List TG) (r : Nat) (m : Nat) (e : Env) (σ : St) : Prop := ∃ (i : Nat) (v : V), e = [(7, .ref r 0), (59, .d y), (60, I l.length), (61, I i), (121, .any)] ∧ i ≤ l.length ∧ m = l.length - i ∧ InAt σ r (allB (l.drop i), false) v ∧ (allB (l.drop i)).length ≤ 200000

theorem back_reads {y : D} {l : List TG} (hy : LV (.d y) (thingRows l)) (hok : ∀ t ∈ l, t.Ok) (hl41 : l.length ≤ 41) (hts : ∀ t ∈ l, t.s.length ≤ 3000) {σ : St} {w : V} (hO : OutAt σ 0 (allB l) w) (hL : (allB l).length ≤ l.length * 4000) (e1 e2 e3 e4 : V) :
    wcode (Dn.Call Γ cx) cx c6_k23 [(0, .d y), (3, .ref 0 0), (17, e1), (18, e2), (19, e3), (20, e4), (121, .any)] σ (endQ .val St.empty [.tmp 2] fun v _ => v = B true) := by
  have hlen : (thingRows l).length = l.length := by simp [thingRows]
  simp -implicitDefEqProofs [body_eq, w_skip, w_ops, w_seq, w_cond, w_block, w_exit, w_ret, q_then_n, q_then_e, q_then_r, q_blk_n, q_blk_e, q_blk_r, q_ops, q_cont, q_end_n, q_end_r, q_end_e, q_loop_n, q_loop_e, q_loop_r, i_nil, i_p, i_alloc, i_box, i_store, i_copy, i_clear, i_make, i_call, i_callv, i_when, t_nil, t_p, t_call, t_alloc, t_box, t_store, kept_nil, t_copy, t_clear, t_make, q_tcont, gsel, List.cons_append, List.nil_append, evalP, evalE, Opd.ev, Env.get, Env.set, Env.pick, putE, initEnv, evalBin, intBin, evalUn, evalConv, goneAll, goneOne, retV, resAll, Res.ev, tupOf, byVals, byValsN, bv_d, bv_da, bv_fl, bv_tl, bn_d, bn_da, bn_fl, bn_tl, cx, Dn.newObj, St.place, St.push, St.spot, St.empty, cell_d, cell_da, cell_agg, cell_ref, cell_sl, cell_fl, cell_tl, cell_map, cell_fn, cell_ifc, loadAt, faddrV, partOf, extractV, mkAgg, ofD, splice, St.setObj, fillV, c6_k23]
  refine use_rd (s_Bytes hO (by omega)) ?_
  obtain ⟨d1, d2, d3, d4, d5⟩ := hO.app.lv.dv σ
  simp -implicitDefEqProofs [body_eq, w_skip, w_ops, w_seq, w_cond, w_block, w_exit, w_ret, q_then_n, q_then_e, q_then_r, q_blk_n, q_blk_e, q_blk_r, q_ops, q_cont, q_end_n, q_end_r, q_end_e, q_loop_n, q_loop_e, q_loop_r, i_nil, i_p, i_alloc, i_box, i_store, i_copy, i_clear, i_make, i_call, i_callv, i_when, t_nil, t_p, t_call, t_alloc, t_box, t_store, kept_nil, t_copy, t_clear, t_make, q_tcont, gsel, List.cons_append, List.nil_append, evalP, evalE, Opd.ev, Env.get, Env.set, Env.pick, putE, initEnv, evalBin, intBin, evalUn, evalConv, goneAll, goneOne, retV, resAll, Res.ev, tupOf, byVals, byValsN, bv_d, bv_da, bv_fl, bv_tl, bn_d, bn_da, bn_fl, bn_tl, cx, Dn.newObj, St.place, St.push, St.spot, St.empty, cell_d, cell_da, cell_agg, cell_ref, cell_sl, cell_fl, cell_tl, cell_map, cell_fn, cell_ifc, loadAt, faddrV, partOf, extractV, mkAgg, ofD, splice, St.setObj, fillV]
  refine use_raw (s_Read σ d2 (by omega)) fun u σ2 ⟨⟨r, v2, e, hr, hin⟩, hfr, htk⟩ => ?_
  subst e
  simp -implicitDefEqProofs [body_eq, w_skip, w_ops, w_seq, w_cond, w_block, w_exit, w_ret, q_then_n, q_then_e, q_then_r, q_blk_n, q_blk_e, q_blk_r, q_ops, q_cont, q_end_n, q_end_r, q_end_e, q_loop_n, q_loop_e, q_loop_r, i_nil, i_p, i_alloc, i_box, i_store, i_copy, i_clear, i_make, i_call, i_callv, i_when, t_nil, t_p, t_call, t_alloc, t_box, t_store, kept_nil, t_copy, t_clear, t_make, q_tcont, gsel, List.cons_append, List.nil_append, evalP, evalE, Opd.ev, Env.get, Env.set, Env.pick, putE, initEnv, evalBin, intBin, evalUn, evalConv, goneAll, goneOne, retV, resAll, Res.ev, tupOf, byVals, byValsN, bv_d, bv_da, bv_fl, bv_tl, bn_d, bn_da, bn_fl, bn_tl, cx, Dn.newObj, St.place, St.push, St.spot, St.empty, cell_d, cell_da, cell_agg, cell_ref, cell_sl, cell_fl, cell_tl, cell_map, cell_fn, cell_ifc, loadAt, faddrV, partOf, extractV, mkAgg, ofD, splice, St.setObj, fillV, c6_k22, hy.len σ2, hlen, c6_k21]
  refine wloopI (InvBack2 y l r) (m := l.length) ⟨0, v2, rfl, by omega, rfl, by simpa using hin, by simp; omega⟩ ?_
  rintro m e σ3 ⟨i, v3, rfl, hi, rfl, hI, hL3⟩
  simp -implicitDefEqProofs [body_eq, w_skip, w_ops, w_seq, w_cond, w_block, w_exit, w_ret, q_then_n, q_then_e, q_then_r, q_blk_n, q_blk_e, q_blk_r, q_ops, q_cont, q_end_n, q_end_r, q_end_e, q_loop_n, q_loop_e, q_loop_r, i_nil, i_p, i_alloc, i_box, i_store, i_copy, i_clear, i_make, i_call, i_callv, i_when, t_nil, t_p, t_call, t_alloc, t_box, t_store, kept_nil, t_copy, t_clear, t_make, q_tcont, gsel, List.cons_append, List.nil_append, evalP, evalE, Opd.ev, Env.get, Env.set, Env.pick, putE, initEnv, evalBin, intBin, evalUn, evalConv, goneAll, goneOne, retV, resAll, Res.ev, tupOf, byVals, byValsN, bv_d, bv_da, bv_fl, bv_tl, bn_d, bn_da, bn_fl, bn_tl, cx, Dn.newObj, St.place, St.push, St.spot, St.empty, cell_d, cell_da, cell_agg, cell_ref, cell_sl, cell_fl, cell_tl, cell_map, cell_fn, cell_ifc, loadAt, faddrV, partOf, extractV, mkAgg, ofD, splice, St.setObj, fillV, c6_l20, c6_k19]
  have hr3 : r < σ3.objs.length := (List.getElem?_eq_some_iff.1 hI.obj).1
  by_cases hlt : i < l.length
  · have hbi : l[i]? = some (l[i]) := by simp [hlt]
    have ht := hok _ (List.getElem_mem hlt)
    have hs := hts _ (List.getElem_mem hlt)
    have hdrop : l.drop i = l[i] :: l.drop (i + 1) := List.drop_eq_getElem_cons hlt
    generalize hti : l[i] = t at *
    have hia := hy.iaddr σ3 (k := .i64) (sz := 36) (thingRows_at hbi) (TG.row_len ht)
    have hii : (i : Int) < l.length := by omega
    have hrl' := TG.row_len ht
    have htk : List.take 36 (List.map V.d t.row) = t.cells := List.take_of_length_le (by simp [hrl'])
    have hcl := TG.cells_len ht
    have e1 : allB (l.drop i) = t.pb ++ allB (l.drop (i + 1)) := by rw [hdrop]; simp [allB]
    rw [e1] at hI hL3
    simp -implicitDefEqProofs [body_eq, w_skip, w_ops, w_seq, w_cond, w_block, w_exit, w_ret, q_then_n, q_then_e, q_then_r, q_blk_n, q_blk_e, q_blk_r, q_ops, q_cont, q_end_n, q_end_r, q_end_e, q_loop_n, q_loop_e, q_loop_r, i_nil, i_p, i_alloc, i_box, i_store, i_copy, i_clear, i_make, i_call, i_callv, i_when, t_nil, t_p, t_call, t_alloc, t_box, t_store, kept_nil, t_copy, t_clear, t_make, q_tcont, gsel, List.cons_append, List.nil_append, evalP, evalE, Opd.ev, Env.get, Env.set, Env.pick, putE, initEnv, evalBin, intBin, evalUn, evalConv, goneAll, goneOne, retV, resAll, Res.ev, tupOf, byVals, byValsN, bv_d, bv_da, bv_fl, bv_tl, bn_d, bn_da, bn_fl, bn_tl, cx, Dn.newObj, St.place, St.push, St.spot, St.empty, cell_d, cell_da, cell_agg, cell_ref, cell_sl, cell_fl, cell_tl, cell_map, cell_fn, cell_ifc, loadAt, faddrV, partOf, extractV, mkAgg, ofD, splice, St.setObj, fillV, hii, hlt, c6_k18, c6_k17, hia, hrl', htk, hcl]
    refine backget_step (r := r) (q := σ3.objs.length) (σ := ⟨σ3.objs ++ [.cells t.cells], σ3.toks⟩) (rest := allB (l.drop (i + 1))) (v := v3) ⟨by simp only; rw [List.getElem?_append_left hr3]; exact hI.obj, hI.lv, hI.tl⟩ (by omega) (by simp) (by omega) ht hs ?_
    rintro σ' k hk ⟨⟨v4, hv4⟩, _, _⟩
    have hL4 : (allB (l.drop (i + 1))).length ≤ 200000 := by
      simp at hL3
      omega
    rcases hk with rfl | rfl | rfl | rfl
    all_goals
      simp -implicitDefEqProofs [body_eq, w_skip, w_ops, w_seq, w_cond, w_block, w_exit, w_ret, q_then_n, q_then_e, q_then_r, q_blk_n, q_blk_e, q_blk_r, q_ops, q_cont, q_end_n, q_end_r, q_end_e, q_loop_n, q_loop_e, q_loop_r, i_nil, i_p, i_alloc, i_box, i_store, i_copy, i_clear, i_make, i_call, i_callv, i_when, t_nil, t_p, t_call, t_alloc, t_box, t_store, kept_nil, t_copy, t_clear, t_make, q_tcont, gsel, List.cons_append, List.nil_append, evalP, evalE, Opd.ev, Env.get, Env.set, Env.pick, putE, initEnv, evalBin, intBin, evalUn, evalConv, goneAll, goneOne, retV, resAll, Res.ev, tupOf, byVals, byValsN, bv_d, bv_da, bv_fl, bv_tl, bn_d, bn_da, bn_fl, bn_tl, cx, Dn.newObj, St.place, St.push, St.spot, St.empty, cell_d, cell_da, cell_agg, cell_ref, cell_sl, cell_fl, cell_tl, cell_map, cell_fn, cell_ifc, loadAt, faddrV, partOf, extractV, mkAgg, ofD, splice, St.setObj, fillV, wrap_i64 (n := (i : Int) + 1) (by omega) (by omega)]
      exact ⟨l.length - (i + 1), by omega, i + 1, v4, rfl, by omega, rfl, hv4, hL4⟩
  obtain rfl : i = l.length := by omega
  have e0 : allB (l.drop l.length) = [] := by simp [allB]
  rw [e0] at hI
  simp -implicitDefEqProofs [body_eq, w_skip, w_ops, w_seq, w_cond, w_block, w_exit, w_ret, q_then_n, q_then_e, q_then_r, q_blk_n, q_blk_e, q_blk_r, q_ops, q_cont, q_end_n, q_end_r, q_end_e, q_loop_n, q_loop_e, q_loop_r, i_nil, i_p, i_alloc, i_box, i_store, i_copy, i_clear, i_make, i_call, i_callv, i_when, t_nil, t_p, t_call, t_alloc, t_box, t_store, kept_nil, t_copy, t_clear, t_make, q_tcont, gsel, List.cons_append, List.nil_append, evalP, evalE, Opd.ev, Env.get, Env.set, Env.pick, putE, initEnv, evalBin, intBin, evalUn, evalConv, goneAll, goneOne, retV, resAll, Res.ev, tupOf, byVals, byValsN, bv_d, bv_da, bv_fl, bv_tl, bn_d, bn_da, bn_fl, bn_tl, cx, Dn.newObj, St.place, St.push, St.spot, St.empty, cell_d, cell_da, cell_agg, cell_ref, cell_sl, cell_fl, cell_tl, cell_map, cell_fn, cell_ifc, loadAt, faddrV, partOf, extractV, mkAgg, ofD, splice, St.setObj, fillV, c6_k0]
  refine use_raw (s_End hI) fun z σ4 ⟨hz, hσ⟩ => ?_
  subst hz hσ
  have e3 : endV ([], false) = .d .nili := rfl
  rw [e3]
  simp -implicitDefEqProofs [body_eq, w_skip, w_ops, w_seq, w_cond, w_block, w_exit, w_ret, q_then_n, q_then_e, q_then_r, q_blk_n, q_blk_e, q_blk_r, q_ops, q_cont, q_end_n, q_end_r, q_end_e, q_loop_n, q_loop_e, q_loop_r, i_nil, i_p, i_alloc, i_box, i_store, i_copy, i_clear, i_make, i_call, i_callv, i_when, t_nil, t_p, t_call, t_alloc, t_box, t_store, kept_nil, t_copy, t_clear, t_make, q_tcont, gsel, List.cons_append, List.nil_append, evalP, evalE, Opd.ev, Env.get, Env.set, Env.pick, putE, initEnv, evalBin, intBin, evalUn, evalConv, goneAll, goneOne, retV, resAll, Res.ev, tupOf, byVals, byValsN, bv_d, bv_da, bv_fl, bv_tl, bn_d, bn_da, bn_fl, bn_tl, cx, Dn.newObj, St.place, St.push, St.spot, St.empty, cell_d, cell_da, cell_agg, cell_ref, cell_sl, cell_fl, cell_tl, cell_map, cell_fn, cell_ifc, loadAt, faddrV, partOf, extractV, mkAgg, ofD, splice, St.setObj, fillV, eqV, V.isNil, Opd.isC]
  refine use_raw (s_Left hI) fun z σ5 ⟨hz, hσ⟩ => ?_
  subst hz hσ
  simp -implicitDefEqProofs [body_eq, w_skip, w_ops, w_seq, w_cond, w_block, w_exit, w_ret, q_then_n, q_then_e, q_then_r, q_blk_n, q_blk_e, q_blk_r, q_ops, q_cont, q_end_n, q_end_r, q_end_e, q_loop_n, q_loop_e, q_loop_r, i_nil, i_p, i_alloc, i_box, i_store, i_copy, i_clear, i_make, i_call, i_callv, i_when, t_nil, t_p, t_call, t_alloc, t_box, t_store, kept_nil, t_copy, t_clear, t_make, q_tcont, gsel, List.cons_append, List.nil_append, evalP, evalE, Opd.ev, Env.get, Env.set, Env.pick, putE, initEnv, evalBin, intBin, evalUn, evalConv, goneAll, goneOne, retV, resAll, Res.ev, tupOf, byVals, byValsN, bv_d, bv_da, bv_fl, bv_tl, bn_d, bn_da, bn_fl, bn_tl, cx, Dn.newObj, St.place, St.push, St.spot, St.empty, cell_d, cell_da, cell_agg, cell_ref, cell_sl, cell_fl, cell_tl, cell_map, cell_fn, cell_ifc, loadAt, faddrV, partOf, extractV, mkAgg, ofD, splice, St.setObj, fillV]

theorem s6 {y : D} {l : List TG} (hy : LV (.d y) (thingRows l)) (hok : ∀ t ∈ l, t.Ok) : Dn.Call Γ cx .val 6 [.d y] St.empty fun v _ => v = B true := by
  refine Dn.Call.body (fc := c6) rfl ?_
  have hlen : (thingRows l).length = l.length := by simp [thingRows]
  simp -implicitDefEqProofs [body_eq, w_skip, w_ops, w_seq, w_cond, w_block, w_exit, w_ret, q_then_n, q_then_e, q_then_r, q_blk_n, q_blk_e, q_blk_r, q_ops, q_cont, q_end_n, q_end_r, q_end_e, q_loop_n, q_loop_e, q_loop_r, i_nil, i_p, i_alloc, i_box, i_store, i_copy, i_clear, i_make, i_call, i_callv, i_when, t_nil, t_p, t_call, t_alloc, t_box, t_store, kept_nil, t_copy, t_clear, t_make, q_tcont, gsel, List.cons_append, List.nil_append, evalP, evalE, Opd.ev, Env.get, Env.set, Env.pick, putE, initEnv, evalBin, intBin, evalUn, evalConv, goneAll, goneOne, retV, resAll, Res.ev, tupOf, byVals, byValsN, bv_d, bv_da, bv_fl, bv_tl, bn_d, bn_da, bn_fl, bn_tl, cx, Dn.newObj, St.place, St.push, St.spot, St.empty, cell_d, cell_da, cell_agg, cell_ref, cell_sl, cell_fl, cell_tl, cell_map, cell_fn, cell_ifc, loadAt, faddrV, partOf, extractV, mkAgg, ofD, splice, St.setObj, fillV, c6, c6_k43]
  refine use_fn rfl s_alive rfl ?_
  simp -implicitDefEqProofs [body_eq, w_skip, w_ops, w_seq, w_cond, w_block, w_exit, w_ret, q_then_n, q_then_e, q_then_r, q_blk_n, q_blk_e, q_blk_r, q_ops, q_cont, q_end_n, q_end_r, q_end_e, q_loop_n, q_loop_e, q_loop_r, i_nil, i_p, i_alloc, i_box, i_store, i_copy, i_clear, i_make, i_call, i_callv, i_when, t_nil, t_p, t_call, t_alloc, t_box, t_store, kept_nil, t_copy, t_clear, t_make, q_tcont, gsel, List.cons_append, List.nil_append, evalP, evalE, Opd.ev, Env.get, Env.set, Env.pick, putE, initEnv, evalBin, intBin, evalUn, evalConv, goneAll, goneOne, retV, resAll, Res.ev, tupOf, byVals, byValsN, bv_d, bv_da, bv_fl, bv_tl, bn_d, bn_da, bn_fl, bn_tl, cx, Dn.newObj, St.place, St.push, St.spot, St.empty, cell_d, cell_da, cell_agg, cell_ref, cell_sl, cell_fl, cell_tl, cell_map, cell_fn, cell_ifc, loadAt, faddrV, partOf, extractV, mkAgg, ofD, splice, St.setObj, fillV, c6_k42, c6_k41]
  refine use_val (ds := [.d y]) rfl (s_long l hy hok) ?_
  rintro v s ⟨bb, rfl, hb⟩
  refine ⟨rfl, fun _ => rfl, ?_⟩
  cases bb with
  | true => simp -implicitDefEqProofs [body_eq, w_skip, w_ops, w_seq, w_cond, w_block, w_exit, w_ret, q_then_n, q_then_e, q_then_r, q_blk_n, q_blk_e, q_blk_r, q_ops, q_cont, q_end_n, q_end_r, q_end_e, q_loop_n, q_loop_e, q_loop_r, i_nil, i_p, i_alloc, i_box, i_store, i_copy, i_clear, i_make, i_call, i_callv, i_when, t_nil, t_p, t_call, t_alloc, t_box, t_store, kept_nil, t_copy, t_clear, t_make, q_tcont, gsel, List.cons_append, List.nil_append, evalP, evalE, Opd.ev, Env.get, Env.set, Env.pick, putE, initEnv, evalBin, intBin, evalUn, evalConv, goneAll, goneOne, retV, resAll, Res.ev, tupOf, byVals, byValsN, bv_d, bv_da, bv_fl, bv_tl, bn_d, bn_da, bn_fl, bn_tl, cx, Dn.newObj, St.place, St.push, St.spot, St.empty, cell_d, cell_da, cell_agg, cell_ref, cell_sl, cell_fl, cell_tl, cell_map, cell_fn, cell_ifc, loadAt, faddrV, partOf, extractV, mkAgg, ofD, splice, St.setObj, fillV, c6_k40]
  | false =>
  obtain ⟨hl41, hts⟩ := hb rfl
  simp -implicitDefEqProofs [body_eq, w_skip, w_ops, w_seq, w_cond, w_block, w_exit, w_ret, q_then_n, q_then_e, q_then_r, q_blk_n, q_blk_e, q_blk_r, q_ops, q_cont, q_end_n, q_end_r, q_end_e, q_loop_n, q_loop_e, q_loop_r, i_nil, i_p, i_alloc, i_box, i_store, i_copy, i_clear, i_make, i_call, i_callv, i_when, t_nil, t_p, t_call, t_alloc, t_box, t_store, kept_nil, t_copy, t_clear, t_make, q_tcont, gsel, List.cons_append, List.nil_append, evalP, evalE, Opd.ev, Env.get, Env.set, Env.pick, putE, initEnv, evalBin, intBin, evalUn, evalConv, goneAll, goneOne, retV, resAll, Res.ev, tupOf, byVals, byValsN, bv_d, bv_da, bv_fl, bv_tl, bn_d, bn_da, bn_fl, bn_tl, cx, Dn.newObj, St.place, St.push, St.spot, St.empty, cell_d, cell_da, cell_agg, cell_ref, cell_sl, cell_fl, cell_tl, cell_map, cell_fn, cell_ifc, loadAt, faddrV, partOf, extractV, mkAgg, ofD, splice, St.setObj, fillV, c6_k40, c6_k39, c6_k38, c6_k37]
  obtain ⟨σ1, hσ1⟩ : ∃ s : St, (⟨[.cells [V.d .nils]], []⟩ : St) = s := ⟨_, rfl⟩
  rw [hσ1]
  simp -implicitDefEqProofs [body_eq, w_skip, w_ops, w_seq, w_cond, w_block, w_exit, w_ret, q_then_n, q_then_e, q_then_r, q_blk_n, q_blk_e, q_blk_r, q_ops, q_cont, q_end_n, q_end_r, q_end_e, q_loop_n, q_loop_e, q_loop_r, i_nil, i_p, i_alloc, i_box, i_store, i_copy, i_clear, i_make, i_call, i_callv, i_when, t_nil, t_p, t_call, t_alloc, t_box, t_store, kept_nil, t_copy, t_clear, t_make, q_tcont, gsel, List.cons_append, List.nil_append, evalP, evalE, Opd.ev, Env.get, Env.set, Env.pick, putE, initEnv, evalBin, intBin, evalUn, evalConv, goneAll, goneOne, retV, resAll, Res.ev, tupOf, byVals, byValsN, bv_d, bv_da, bv_fl, bv_tl, bn_d, bn_da, bn_fl, bn_tl, cx, Dn.newObj, St.place, St.push, St.spot, St.empty, cell_d, cell_da, cell_agg, cell_ref, cell_sl, cell_fl, cell_tl, cell_map, cell_fn, cell_ifc, loadAt, faddrV, partOf, extractV, mkAgg, ofD, splice, St.setObj, fillV, hy.len σ1, hlen]
  have h1 : OutAt σ1 0 [] (.d .nils) := ⟨by rw [← hσ1]; simp, by simpa [byteRows] using App.nil⟩
  refine wloopI (InvBack1 y l) (m := l.length) ⟨0, _, rfl, by omega, rfl, by simpa [allB] using h1, by simp [allB]⟩ ?_
  rintro m e σ ⟨i, w, rfl, hi, rfl, hO, hL⟩
  simp -implicitDefEqProofs [body_eq, w_skip, w_ops, w_seq, w_cond, w_block, w_exit, w_ret, q_then_n, q_then_e, q_then_r, q_blk_n, q_blk_e, q_blk_r, q_ops, q_cont, q_end_n, q_end_r, q_end_e, q_loop_n, q_loop_e, q_loop_r, i_nil, i_p, i_alloc, i_box, i_store, i_copy, i_clear, i_make, i_call, i_callv, i_when, t_nil, t_p, t_call, t_alloc, t_box, t_store, kept_nil, t_copy, t_clear, t_make, q_tcont, gsel, List.cons_append, List.nil_append, evalP, evalE, Opd.ev, Env.get, Env.set, Env.pick, putE, initEnv, evalBin, intBin, evalUn, evalConv, goneAll, goneOne, retV, resAll, Res.ev, tupOf, byVals, byValsN, bv_d, bv_da, bv_fl, bv_tl, bn_d, bn_da, bn_fl, bn_tl, cx, Dn.newObj, St.place, St.push, St.spot, St.empty, cell_d, cell_da, cell_agg, cell_ref, cell_sl, cell_fl, cell_tl, cell_map, cell_fn, cell_ifc, loadAt, faddrV, partOf, extractV, mkAgg, ofD, splice, St.setObj, fillV, c6_l36, c6_k35]
  have h0 : 0 < σ.objs.length := (List.getElem?_eq_some_iff.1 hO.obj).1
  by_cases hlt : i < l.length
  · have hbi : l[i]? = some (l[i]) := by simp [hlt]
    have ht := hok _ (List.getElem_mem hlt)
    have hs := hts _ (List.getElem_mem hlt)
    have htake : l.take (i + 1) = l.take i ++ [l[i]] := List.take_succ_eq_append_getElem hlt
    generalize hti : l[i] = t at *
    have hia := hy.iaddr σ (k := .i64) (sz := 36) (thingRows_at hbi) (TG.row_len ht)
    have hii : (i : Int) < l.length := by omega
    have hrl' := TG.row_len ht
    have htk : List.take 36 (List.map V.d t.row) = t.cells := List.take_of_length_le (by simp [hrl'])
    have hcl := TG.cells_len ht
    simp -implicitDefEqProofs [body_eq, w_skip, w_ops, w_seq, w_cond, w_block, w_exit, w_ret, q_then_n, q_then_e, q_then_r, q_blk_n, q_blk_e, q_blk_r, q_ops, q_cont, q_end_n, q_end_r, q_end_e, q_loop_n, q_loop_e, q_loop_r, i_nil, i_p, i_alloc, i_box, i_store, i_copy, i_clear, i_make, i_call, i_callv, i_when, t_nil, t_p, t_call, t_alloc, t_box, t_store, kept_nil, t_copy, t_clear, t_make, q_tcont, gsel, List.cons_append, List.nil_append, evalP, evalE, Opd.ev, Env.get, Env.set, Env.pick, putE, initEnv, evalBin, intBin, evalUn, evalConv, goneAll, goneOne, retV, resAll, Res.ev, tupOf, byVals, byValsN, bv_d, bv_da, bv_fl, bv_tl, bn_d, bn_da, bn_fl, bn_tl, cx, Dn.newObj, St.place, St.push, St.spot, St.empty, cell_d, cell_da, cell_agg, cell_ref, cell_sl, cell_fl, cell_tl, cell_map, cell_fn, cell_ifc, loadAt, faddrV, partOf, extractV, mkAgg, ofD, splice, St.setObj, fillV, hii, hlt, c6_k34, c6_k33, hia, hrl', htk, hcl]
    refine backput_step (r := 0) (w := w) (q := σ.objs.length) (σ := ⟨σ.objs ++ [.cells t.cells], σ.toks⟩) (L := allB (l.take i)) ⟨by simp only; rw [List.getElem?_append_left h0]; exact hO.obj, hO.app.toks rfl⟩ (by omega) (by simp) (by omega) ht hs ?_
    intro σ' w' hp
    have hpl := t.pb_len ht hs
    have e1 : allB (l.take (i + 1)) = allB (l.take i) ++ t.pb := by rw [htake]; simp [allB]
    rw [← e1] at hp
    simp -implicitDefEqProofs [body_eq, w_skip, w_ops, w_seq, w_cond, w_block, w_exit, w_ret, q_then_n, q_then_e, q_then_r, q_blk_n, q_blk_e, q_blk_r, q_ops, q_cont, q_end_n, q_end_r, q_end_e, q_loop_n, q_loop_e, q_loop_r, i_nil, i_p, i_alloc, i_box, i_store, i_copy, i_clear, i_make, i_call, i_callv, i_when, t_nil, t_p, t_call, t_alloc, t_box, t_store, kept_nil, t_copy, t_clear, t_make, q_tcont, gsel, List.cons_append, List.nil_append, evalP, evalE, Opd.ev, Env.get, Env.set, Env.pick, putE, initEnv, evalBin, intBin, evalUn, evalConv, goneAll, goneOne, retV, resAll, Res.ev, tupOf, byVals, byValsN, bv_d, bv_da, bv_fl, bv_tl, bn_d, bn_da, bn_fl, bn_tl, cx, Dn.newObj, St.place, St.push, St.spot, St.empty, cell_d, cell_da, cell_agg, cell_ref, cell_sl, cell_fl, cell_tl, cell_map, cell_fn, cell_ifc, loadAt, faddrV, partOf, extractV, mkAgg, ofD, splice, St.setObj, fillV, wrap_i64 (n := (i : Int) + 1) (by omega) (by omega)]
    refine ⟨l.length - (i + 1), by omega, i + 1, _, rfl, by omega, rfl, hp.out, ?_⟩
    rw [e1]
    simp
    omega
  obtain rfl : i = l.length := by omega
  rw [List.take_length] at hO hL
  simp -implicitDefEqProofs [body_eq, w_skip, w_ops, w_seq, w_cond, w_block, w_exit, w_ret, q_then_n, q_then_e, q_then_r, q_blk_n, q_blk_e, q_blk_r, q_ops, q_cont, q_end_n, q_end_r, q_end_e, q_loop_n, q_loop_e, q_loop_r, i_nil, i_p, i_alloc, i_box, i_store, i_copy, i_clear, i_make, i_call, i_callv, i_when, t_nil, t_p, t_call, t_alloc, t_box, t_store, kept_nil, t_copy, t_clear, t_make, q_tcont, gsel, List.cons_append, List.nil_append, evalP, evalE, Opd.ev, Env.get, Env.set, Env.pick, putE, initEnv, evalBin, intBin, evalUn, evalConv, goneAll, goneOne, retV, resAll, Res.ev, tupOf, byVals, byValsN, bv_d, bv_da, bv_fl, bv_tl, bn_d, bn_da, bn_fl, bn_tl, cx, Dn.newObj, St.place, St.push, St.spot, St.empty, cell_d, cell_da, cell_agg, cell_ref, cell_sl, cell_fl, cell_tl, cell_map, cell_fn, cell_ifc, loadAt, faddrV, partOf, extractV, mkAgg, ofD, splice, St.setObj, fillV]
  exact back_reads hy hok hl41 hts hO hL _ _ _ _

theorem law6 {x : D} (hx : (Lk.list thingK).fits x) : Dn.Call Γ cx .val 6 [.d x] St.empty fun r _ => r = B true := by
  obtain ⟨l, hl, h⟩ := things_fit hx
  exact s6 h hl

end Go.Proofs.Ytjkedjjahjlmfaa.T
