import Derived.Test.YtjkedjjahjlmfaaB11
import Derived.Test.YtjkedjjahjlmfaaFw35
import Derived.Test.YtjkedjjahjlmfaaB17
namespace Go.Proofs.Ytjkedjjahjlmfaa.T
open Go.Dn
set_option linter.unusedSimpArgs false
set_option linter.unusedVariables false

def InvPuts (y : D) (l : List TG) (m : Nat) (e : Env) (σ : St) : Prop := ∃ (i : Nat) (v w : V) (L : List UInt8), e = [(3, .ref 0 0), (4, w), (16, .d y), (17, I l.length), (18, I i)] ∧ i ≤ l.length ∧ m = l.length - i ∧ Two σ 0 v w L ∧ L.length ≤ i * 4000

def InvFlip (w : V) (q len : Nat) (v : V) (L : List UInt8) (m : Nat) (e : Env) (σ : St) : Prop := ∃ (i : Nat), e = [(3, .ref 0 0), (4, w), (7, .sl q 0 len 1), (80, I len), (81, I i)] ∧ i ≤ len ∧ m = len - i ∧ Two σ 0 v w L ∧ ∃ cs : List Int, cs.length = len ∧ σ.objs[q]? = some (.cells (cs.map Y))

theorem s4 {y : D} {l : List TG} (hy : LV (.d y) (thingRows l)) (hok : ∀ t ∈ l, t.Ok) : Dn.Call Γ cx .val 4 [.d y] St.empty fun v _ => v = B true := by
  refine Dn.Call.body (fc := c4) rfl ?_
  have hlen : (thingRows l).length = l.length := by simp [thingRows]
  simp -implicitDefEqProofs [body_eq, w_skip, w_ops, w_seq, w_cond, w_block, w_exit, w_ret, q_then_n, q_then_e, q_then_r, q_blk_n, q_blk_e, q_blk_r, q_ops, q_cont, q_end_n, q_end_r, q_end_e, q_loop_n, q_loop_e, q_loop_r, i_nil, i_p, i_alloc, i_box, i_store, i_copy, i_clear, i_make, i_call, i_callv, i_when, t_nil, t_p, t_call, t_alloc, t_box, t_store, kept_nil, t_copy, t_clear, t_make, q_tcont, gsel, List.cons_append, List.nil_append, evalP, evalE, Opd.ev, Env.get, Env.set, Env.pick, putE, initEnv, evalBin, intBin, evalUn, evalConv, goneAll, goneOne, retV, resAll, Res.ev, tupOf, byVals, byValsN, bv_d, bv_da, bv_fl, bv_tl, bn_d, bn_da, bn_fl, bn_tl, cx, Dn.newObj, St.place, St.push, St.spot, St.empty, cell_d, cell_da, cell_agg, cell_ref, cell_sl, cell_fl, cell_tl, cell_map, cell_fn, cell_ifc, loadAt, faddrV, partOf, extractV, mkAgg, ofD, splice, St.setObj, fillV, c4, c4_k34]
  refine use_fn rfl s_alive rfl ?_
  simp -implicitDefEqProofs [body_eq, w_skip, w_ops, w_seq, w_cond, w_block, w_exit, w_ret, q_then_n, q_then_e, q_then_r, q_blk_n, q_blk_e, q_blk_r, q_ops, q_cont, q_end_n, q_end_r, q_end_e, q_loop_n, q_loop_e, q_loop_r, i_nil, i_p, i_alloc, i_box, i_store, i_copy, i_clear, i_make, i_call, i_callv, i_when, t_nil, t_p, t_call, t_alloc, t_box, t_store, kept_nil, t_copy, t_clear, t_make, q_tcont, gsel, List.cons_append, List.nil_append, evalP, evalE, Opd.ev, Env.get, Env.set, Env.pick, putE, initEnv, evalBin, intBin, evalUn, evalConv, goneAll, goneOne, retV, resAll, Res.ev, tupOf, byVals, byValsN, bv_d, bv_da, bv_fl, bv_tl, bn_d, bn_da, bn_fl, bn_tl, cx, Dn.newObj, St.place, St.push, St.spot, St.empty, cell_d, cell_da, cell_agg, cell_ref, cell_sl, cell_fl, cell_tl, cell_map, cell_fn, cell_ifc, loadAt, faddrV, partOf, extractV, mkAgg, ofD, splice, St.setObj, fillV, c4_k33, c4_k32]
  refine use_val (ds := [.d y]) rfl (s_long l hy hok) ?_
  rintro v s ⟨b, rfl, hb⟩
  refine ⟨rfl, fun _ => rfl, ?_⟩
  cases b with
  | true => simp -implicitDefEqProofs [body_eq, w_skip, w_ops, w_seq, w_cond, w_block, w_exit, w_ret, q_then_n, q_then_e, q_then_r, q_blk_n, q_blk_e, q_blk_r, q_ops, q_cont, q_end_n, q_end_r, q_end_e, q_loop_n, q_loop_e, q_loop_r, i_nil, i_p, i_alloc, i_box, i_store, i_copy, i_clear, i_make, i_call, i_callv, i_when, t_nil, t_p, t_call, t_alloc, t_box, t_store, kept_nil, t_copy, t_clear, t_make, q_tcont, gsel, List.cons_append, List.nil_append, evalP, evalE, Opd.ev, Env.get, Env.set, Env.pick, putE, initEnv, evalBin, intBin, evalUn, evalConv, goneAll, goneOne, retV, resAll, Res.ev, tupOf, byVals, byValsN, bv_d, bv_da, bv_fl, bv_tl, bn_d, bn_da, bn_fl, bn_tl, cx, Dn.newObj, St.place, St.push, St.spot, St.empty, cell_d, cell_da, cell_agg, cell_ref, cell_sl, cell_fl, cell_tl, cell_map, cell_fn, cell_ifc, loadAt, faddrV, partOf, extractV, mkAgg, ofD, splice, St.setObj, fillV, c4_k31]
  | false =>
  obtain ⟨hl41, hts⟩ := hb rfl
  simp -implicitDefEqProofs [body_eq, w_skip, w_ops, w_seq, w_cond, w_block, w_exit, w_ret, q_then_n, q_then_e, q_then_r, q_blk_n, q_blk_e, q_blk_r, q_ops, q_cont, q_end_n, q_end_r, q_end_e, q_loop_n, q_loop_e, q_loop_r, i_nil, i_p, i_alloc, i_box, i_store, i_copy, i_clear, i_make, i_call, i_callv, i_when, t_nil, t_p, t_call, t_alloc, t_box, t_store, kept_nil, t_copy, t_clear, t_make, q_tcont, gsel, List.cons_append, List.nil_append, evalP, evalE, Opd.ev, Env.get, Env.set, Env.pick, putE, initEnv, evalBin, intBin, evalUn, evalConv, goneAll, goneOne, retV, resAll, Res.ev, tupOf, byVals, byValsN, bv_d, bv_da, bv_fl, bv_tl, bn_d, bn_da, bn_fl, bn_tl, cx, Dn.newObj, St.place, St.push, St.spot, St.empty, cell_d, cell_da, cell_agg, cell_ref, cell_sl, cell_fl, cell_tl, cell_map, cell_fn, cell_ifc, loadAt, faddrV, partOf, extractV, mkAgg, ofD, splice, St.setObj, fillV, c4_k31, c4_k30, c4_k29, c4_k28, c4_k27, repl, rowsOf]
  obtain ⟨σ1, hσ1⟩ : ∃ s : St, (⟨[.cells [V.d .nils]], []⟩ : St) = s := ⟨_, rfl⟩
  rw [hσ1]
  simp -implicitDefEqProofs [body_eq, w_skip, w_ops, w_seq, w_cond, w_block, w_exit, w_ret, q_then_n, q_then_e, q_then_r, q_blk_n, q_blk_e, q_blk_r, q_ops, q_cont, q_end_n, q_end_r, q_end_e, q_loop_n, q_loop_e, q_loop_r, i_nil, i_p, i_alloc, i_box, i_store, i_copy, i_clear, i_make, i_call, i_callv, i_when, t_nil, t_p, t_call, t_alloc, t_box, t_store, kept_nil, t_copy, t_clear, t_make, q_tcont, gsel, List.cons_append, List.nil_append, evalP, evalE, Opd.ev, Env.get, Env.set, Env.pick, putE, initEnv, evalBin, intBin, evalUn, evalConv, goneAll, goneOne, retV, resAll, Res.ev, tupOf, byVals, byValsN, bv_d, bv_da, bv_fl, bv_tl, bn_d, bn_da, bn_fl, bn_tl, cx, Dn.newObj, St.place, St.push, St.spot, St.empty, cell_d, cell_da, cell_agg, cell_ref, cell_sl, cell_fl, cell_tl, cell_map, cell_fn, cell_ifc, loadAt, faddrV, partOf, extractV, mkAgg, ofD, splice, St.setObj, fillV, hy.len σ1, hlen]
  have h1 : Two σ1 0 (.d .nils) (.fl []) [] := ⟨⟨by rw [← hσ1]; simp, by simpa [byteRows] using App.nil⟩, by simpa [byteRows] using App.fl [], fun t e => by cases e⟩
  refine wloopI (InvPuts y l) (m := l.length) ⟨0, _, _, _, rfl, by omega, rfl, h1, by simp⟩ ?_
  rintro m e σ ⟨i, v, w, L, rfl, hi, rfl, htw, hL⟩
  simp -implicitDefEqProofs [body_eq, w_skip, w_ops, w_seq, w_cond, w_block, w_exit, w_ret, q_then_n, q_then_e, q_then_r, q_blk_n, q_blk_e, q_blk_r, q_ops, q_cont, q_end_n, q_end_r, q_end_e, q_loop_n, q_loop_e, q_loop_r, i_nil, i_p, i_alloc, i_box, i_store, i_copy, i_clear, i_make, i_call, i_callv, i_when, t_nil, t_p, t_call, t_alloc, t_box, t_store, kept_nil, t_copy, t_clear, t_make, q_tcont, gsel, List.cons_append, List.nil_append, evalP, evalE, Opd.ev, Env.get, Env.set, Env.pick, putE, initEnv, evalBin, intBin, evalUn, evalConv, goneAll, goneOne, retV, resAll, Res.ev, tupOf, byVals, byValsN, bv_d, bv_da, bv_fl, bv_tl, bn_d, bn_da, bn_fl, bn_tl, cx, Dn.newObj, St.place, St.push, St.spot, St.empty, cell_d, cell_da, cell_agg, cell_ref, cell_sl, cell_fl, cell_tl, cell_map, cell_fn, cell_ifc, loadAt, faddrV, partOf, extractV, mkAgg, ofD, splice, St.setObj, fillV, c4_l26, c4_k25]
  by_cases hlt : i < l.length
  · have hb : l[i]? = some (l[i]) := by simp [hlt]
    have ht := hok _ (List.getElem_mem hlt)
    have hs := hts _ (List.getElem_mem hlt)
    generalize hti : l[i] = t at *
    have hia := hy.iaddr σ (k := .i64) (sz := 36) (thingRows_at hb) (TG.row_len ht)
    have hii : (i : Int) < l.length := by omega
    have hrl := TG.row_len ht
    have htk : List.take 36 (List.map V.d t.row) = t.cells := List.take_of_length_le (by simp [hrl])
    have hcl := TG.cells_len ht
    simp -implicitDefEqProofs [body_eq, w_skip, w_ops, w_seq, w_cond, w_block, w_exit, w_ret, q_then_n, q_then_e, q_then_r, q_blk_n, q_blk_e, q_blk_r, q_ops, q_cont, q_end_n, q_end_r, q_end_e, q_loop_n, q_loop_e, q_loop_r, i_nil, i_p, i_alloc, i_box, i_store, i_copy, i_clear, i_make, i_call, i_callv, i_when, t_nil, t_p, t_call, t_alloc, t_box, t_store, kept_nil, t_copy, t_clear, t_make, q_tcont, gsel, List.cons_append, List.nil_append, evalP, evalE, Opd.ev, Env.get, Env.set, Env.pick, putE, initEnv, evalBin, intBin, evalUn, evalConv, goneAll, goneOne, retV, resAll, Res.ev, tupOf, byVals, byValsN, bv_d, bv_da, bv_fl, bv_tl, bn_d, bn_da, bn_fl, bn_tl, cx, Dn.newObj, St.place, St.push, St.spot, St.empty, cell_d, cell_da, cell_agg, cell_ref, cell_sl, cell_fl, cell_tl, cell_map, cell_fn, cell_ifc, loadAt, faddrV, partOf, extractV, mkAgg, ofD, splice, St.setObj, fillV, hii, hlt, c4_k24, c4_k23, hia, hrl, htk, hcl]
    have h0 : 0 < σ.objs.length := (List.getElem?_eq_some_iff.1 htw.out.obj).1
    refine puts_step (q := σ.objs.length) (σ := ⟨σ.objs ++ [.cells t.cells], σ.toks⟩) (htw.fr ⟨by simp, fun q _ hq => by simp [List.getElem?_append_left hq]⟩ rfl) (by omega) (by simp) (by omega) ht hs ?_
    intro v' w' σ' htw'
    have hpl := t.put_len ht hs
    simp -implicitDefEqProofs [body_eq, w_skip, w_ops, w_seq, w_cond, w_block, w_exit, w_ret, q_then_n, q_then_e, q_then_r, q_blk_n, q_blk_e, q_blk_r, q_ops, q_cont, q_end_n, q_end_r, q_end_e, q_loop_n, q_loop_e, q_loop_r, i_nil, i_p, i_alloc, i_box, i_store, i_copy, i_clear, i_make, i_call, i_callv, i_when, t_nil, t_p, t_call, t_alloc, t_box, t_store, kept_nil, t_copy, t_clear, t_make, q_tcont, gsel, List.cons_append, List.nil_append, evalP, evalE, Opd.ev, Env.get, Env.set, Env.pick, putE, initEnv, evalBin, intBin, evalUn, evalConv, goneAll, goneOne, retV, resAll, Res.ev, tupOf, byVals, byValsN, bv_d, bv_da, bv_fl, bv_tl, bn_d, bn_da, bn_fl, bn_tl, cx, Dn.newObj, St.place, St.push, St.spot, St.empty, cell_d, cell_da, cell_agg, cell_ref, cell_sl, cell_fl, cell_tl, cell_map, cell_fn, cell_ifc, loadAt, faddrV, partOf, extractV, mkAgg, ofD, splice, St.setObj, fillV, wrap_i64 (n := (i : Int) + 1) (by omega) (by omega)]
    exact ⟨l.length - (i + 1), by omega, i + 1, v', w', _, rfl, by omega, rfl, htw', by simp; omega⟩
  obtain rfl : i = l.length := by omega
  simp -implicitDefEqProofs [body_eq, w_skip, w_ops, w_seq, w_cond, w_block, w_exit, w_ret, q_then_n, q_then_e, q_then_r, q_blk_n, q_blk_e, q_blk_r, q_ops, q_cont, q_end_n, q_end_r, q_end_e, q_loop_n, q_loop_e, q_loop_r, i_nil, i_p, i_alloc, i_box, i_store, i_copy, i_clear, i_make, i_call, i_callv, i_when, t_nil, t_p, t_call, t_alloc, t_box, t_store, kept_nil, t_copy, t_clear, t_make, q_tcont, gsel, List.cons_append, List.nil_append, evalP, evalE, Opd.ev, Env.get, Env.set, Env.pick, putE, initEnv, evalBin, intBin, evalUn, evalConv, goneAll, goneOne, retV, resAll, Res.ev, tupOf, byVals, byValsN, bv_d, bv_da, bv_fl, bv_tl, bn_d, bn_da, bn_fl, bn_tl, cx, Dn.newObj, St.place, St.push, St.spot, St.empty, cell_d, cell_da, cell_agg, cell_ref, cell_sl, cell_fl, cell_tl, cell_map, cell_fn, cell_ifc, loadAt, faddrV, partOf, extractV, mkAgg, ofD, splice, St.setObj, fillV, c4_k7]
  have h00 : 0 < σ.objs.length := (List.getElem?_eq_some_iff.1 htw.out.obj).1
  refine use_raw (s_BytesM htw.out (by omega)) fun u σ2 ⟨hm, hf, htk⟩ => ?_
  have htw2 := htw.fr hf htk
  -- the end
  have fin : ∀ (u : V) (n j : V) (σ : St), Two σ 0 v w L → wcode (Dn.Call Γ cx) cx c4_k0 [(3, .ref 0 0), (4, w), (7, u), (80, n), (81, j), (82, B false)] σ (endQ .val St.empty [.tmp 2] fun v _ => v = B true) := by
    intro u n j σ h
    have hr : 0 < σ.objs.length := (List.getElem?_eq_some_iff.1 h.out.obj).1
    simp only [c4_k0]
    simp -implicitDefEqProofs [body_eq, w_skip, w_ops, w_seq, w_cond, w_block, w_exit, w_ret, q_then_n, q_then_e, q_then_r, q_blk_n, q_blk_e, q_blk_r, q_ops, q_cont, q_end_n, q_end_r, q_end_e, q_loop_n, q_loop_e, q_loop_r, i_nil, i_p, i_alloc, i_box, i_store, i_copy, i_clear, i_make, i_call, i_callv, i_when, t_nil, t_p, t_call, t_alloc, t_box, t_store, kept_nil, t_copy, t_clear, t_make, q_tcont, gsel, List.cons_append, List.nil_append, evalP, evalE, Opd.ev, Env.get, Env.set, Env.pick, putE, initEnv, evalBin, intBin, evalUn, evalConv, goneAll, goneOne, retV, resAll, Res.ev, tupOf, byVals, byValsN, bv_d, bv_da, bv_fl, bv_tl, bn_d, bn_da, bn_fl, bn_tl, cx, Dn.newObj, St.place, St.push, St.spot, St.empty, cell_d, cell_da, cell_agg, cell_ref, cell_sl, cell_fl, cell_tl, cell_map, cell_fn, cell_ifc, loadAt, faddrV, partOf, extractV, mkAgg, ofD, splice, St.setObj, fillV]
    refine w_drw (fun _ => .rd) [] (by decide +kernel) ?_
    simp -implicitDefEqProofs [body_eq, w_skip, w_ops, w_seq, w_cond, w_block, w_exit, w_ret, q_then_n, q_then_e, q_then_r, q_blk_n, q_blk_e, q_blk_r, q_ops, q_cont, q_end_n, q_end_r, q_end_e, q_loop_n, q_loop_e, q_loop_r, i_nil, i_p, i_alloc, i_box, i_store, i_copy, i_clear, i_make, i_call, i_callv, i_when, t_nil, t_p, t_call, t_alloc, t_box, t_store, kept_nil, t_copy, t_clear, t_make, q_tcont, gsel, List.cons_append, List.nil_append, evalP, evalE, Opd.ev, Env.get, Env.set, Env.pick, putE, initEnv, evalBin, intBin, evalUn, evalConv, goneAll, goneOne, retV, resAll, Res.ev, tupOf, byVals, byValsN, bv_d, bv_da, bv_fl, bv_tl, bn_d, bn_da, bn_fl, bn_tl, cx, Dn.newObj, St.place, St.push, St.spot, St.empty, cell_d, cell_da, cell_agg, cell_ref, cell_sl, cell_fl, cell_tl, cell_map, cell_fn, cell_ifc, loadAt, faddrV, partOf, extractV, mkAgg, ofD, splice, St.setObj, fillV]
    have hro : OutAt (σ.room 0) 0 L v := ⟨room_at h.out.obj, h.out.app.toks (room_toks σ 0)⟩
    obtain ⟨d1, d2, d3, d4, d5⟩ := h.out.app.lv.dv σ
    refine use_rdN rfl (fun σ1 ha => s_Bytes ⟨(ha.1 0 hr).trans hro.obj, hro.app.toks ha.2⟩ (by omega)) ?_
    simp -implicitDefEqProofs [body_eq, w_skip, w_ops, w_seq, w_cond, w_block, w_exit, w_ret, q_then_n, q_then_e, q_then_r, q_blk_n, q_blk_e, q_blk_r, q_ops, q_cont, q_end_n, q_end_r, q_end_e, q_loop_n, q_loop_e, q_loop_r, i_nil, i_p, i_alloc, i_box, i_store, i_copy, i_clear, i_make, i_call, i_callv, i_when, t_nil, t_p, t_call, t_alloc, t_box, t_store, kept_nil, t_copy, t_clear, t_make, q_tcont, gsel, List.cons_append, List.nil_append, evalP, evalE, Opd.ev, Env.get, Env.set, Env.pick, putE, initEnv, evalBin, intBin, evalUn, evalConv, goneAll, goneOne, retV, resAll, Res.ev, tupOf, byVals, byValsN, bv_d, bv_da, bv_fl, bv_tl, bn_d, bn_da, bn_fl, bn_tl, cx, Dn.newObj, St.place, St.push, St.spot, St.empty, cell_d, cell_da, cell_agg, cell_ref, cell_sl, cell_fl, cell_tl, cell_map, cell_fn, cell_ifc, loadAt, faddrV, partOf, extractV, mkAgg, ofD, splice, St.setObj, fillV, d2.rows _, h.app.lv.rows _, rowBytes_byteRows, strBin_eq]
  rcases hm with ⟨rfl, hnl⟩ | ⟨q, rfl, hq, hcs⟩
  · simp -implicitDefEqProofs [body_eq, w_skip, w_ops, w_seq, w_cond, w_block, w_exit, w_ret, q_then_n, q_then_e, q_then_r, q_blk_n, q_blk_e, q_blk_r, q_ops, q_cont, q_end_n, q_end_r, q_end_e, q_loop_n, q_loop_e, q_loop_r, i_nil, i_p, i_alloc, i_box, i_store, i_copy, i_clear, i_make, i_call, i_callv, i_when, t_nil, t_p, t_call, t_alloc, t_box, t_store, kept_nil, t_copy, t_clear, t_make, q_tcont, gsel, List.cons_append, List.nil_append, evalP, evalE, Opd.ev, Env.get, Env.set, Env.pick, putE, initEnv, evalBin, intBin, evalUn, evalConv, goneAll, goneOne, retV, resAll, Res.ev, tupOf, byVals, byValsN, bv_d, bv_da, bv_fl, bv_tl, bn_d, bn_da, bn_fl, bn_tl, cx, Dn.newObj, St.place, St.push, St.spot, St.empty, cell_d, cell_da, cell_agg, cell_ref, cell_sl, cell_fl, cell_tl, cell_map, cell_fn, cell_ifc, loadAt, faddrV, partOf, extractV, mkAgg, ofD, splice, St.setObj, fillV, c4_k6, hnl.len σ2, c4_k5]
    refine wround ?_
    simp -implicitDefEqProofs [body_eq, w_skip, w_ops, w_seq, w_cond, w_block, w_exit, w_ret, q_then_n, q_then_e, q_then_r, q_blk_n, q_blk_e, q_blk_r, q_ops, q_cont, q_end_n, q_end_r, q_end_e, q_loop_n, q_loop_e, q_loop_r, i_nil, i_p, i_alloc, i_box, i_store, i_copy, i_clear, i_make, i_call, i_callv, i_when, t_nil, t_p, t_call, t_alloc, t_box, t_store, kept_nil, t_copy, t_clear, t_make, q_tcont, gsel, List.cons_append, List.nil_append, evalP, evalE, Opd.ev, Env.get, Env.set, Env.pick, putE, initEnv, evalBin, intBin, evalUn, evalConv, goneAll, goneOne, retV, resAll, Res.ev, tupOf, byVals, byValsN, bv_d, bv_da, bv_fl, bv_tl, bn_d, bn_da, bn_fl, bn_tl, cx, Dn.newObj, St.place, St.push, St.spot, St.empty, cell_d, cell_da, cell_agg, cell_ref, cell_sl, cell_fl, cell_tl, cell_map, cell_fn, cell_ifc, loadAt, faddrV, partOf, extractV, mkAgg, ofD, splice, St.setObj, fillV, c4_l4, c4_k3]
    exact fin _ _ _ _ htw2
  · simp -implicitDefEqProofs [body_eq, w_skip, w_ops, w_seq, w_cond, w_block, w_exit, w_ret, q_then_n, q_then_e, q_then_r, q_blk_n, q_blk_e, q_blk_r, q_ops, q_cont, q_end_n, q_end_r, q_end_e, q_loop_n, q_loop_e, q_loop_r, i_nil, i_p, i_alloc, i_box, i_store, i_copy, i_clear, i_make, i_call, i_callv, i_when, t_nil, t_p, t_call, t_alloc, t_box, t_store, kept_nil, t_copy, t_clear, t_make, q_tcont, gsel, List.cons_append, List.nil_append, evalP, evalE, Opd.ev, Env.get, Env.set, Env.pick, putE, initEnv, evalBin, intBin, evalUn, evalConv, goneAll, goneOne, retV, resAll, Res.ev, tupOf, byVals, byValsN, bv_d, bv_da, bv_fl, bv_tl, bn_d, bn_da, bn_fl, bn_tl, cx, Dn.newObj, St.place, St.push, St.spot, St.empty, cell_d, cell_da, cell_agg, cell_ref, cell_sl, cell_fl, cell_tl, cell_map, cell_fn, cell_ifc, loadAt, faddrV, partOf, extractV, mkAgg, ofD, splice, St.setObj, fillV, c4_k6, lenT, lenV, c4_k5]
    refine wloopI (InvFlip w q L.length v L) (m := L.length) ⟨0, rfl, by omega, rfl, htw2, L.map (fun b => (b.toNat : Int)), by simp, by rw [hcs]; simp⟩ ?_
    rintro m e σ3 ⟨j, rfl, hj, rfl, htw3, cs, hcl, hob⟩
    simp -implicitDefEqProofs [body_eq, w_skip, w_ops, w_seq, w_cond, w_block, w_exit, w_ret, q_then_n, q_then_e, q_then_r, q_blk_n, q_blk_e, q_blk_r, q_ops, q_cont, q_end_n, q_end_r, q_end_e, q_loop_n, q_loop_e, q_loop_r, i_nil, i_p, i_alloc, i_box, i_store, i_copy, i_clear, i_make, i_call, i_callv, i_when, t_nil, t_p, t_call, t_alloc, t_box, t_store, kept_nil, t_copy, t_clear, t_make, q_tcont, gsel, List.cons_append, List.nil_append, evalP, evalE, Opd.ev, Env.get, Env.set, Env.pick, putE, initEnv, evalBin, intBin, evalUn, evalConv, goneAll, goneOne, retV, resAll, Res.ev, tupOf, byVals, byValsN, bv_d, bv_da, bv_fl, bv_tl, bn_d, bn_da, bn_fl, bn_tl, cx, Dn.newObj, St.place, St.push, St.spot, St.empty, cell_d, cell_da, cell_agg, cell_ref, cell_sl, cell_fl, cell_tl, cell_map, cell_fn, cell_ifc, loadAt, faddrV, partOf, extractV, mkAgg, ofD, splice, St.setObj, fillV, c4_l4, c4_k3]
    by_cases hjl : j < L.length
    rotate_left
    · obtain rfl : j = L.length := by omega
      simp -implicitDefEqProofs [body_eq, w_skip, w_ops, w_seq, w_cond, w_block, w_exit, w_ret, q_then_n, q_then_e, q_then_r, q_blk_n, q_blk_e, q_blk_r, q_ops, q_cont, q_end_n, q_end_r, q_end_e, q_loop_n, q_loop_e, q_loop_r, i_nil, i_p, i_alloc, i_box, i_store, i_copy, i_clear, i_make, i_call, i_callv, i_when, t_nil, t_p, t_call, t_alloc, t_box, t_store, kept_nil, t_copy, t_clear, t_make, q_tcont, gsel, List.cons_append, List.nil_append, evalP, evalE, Opd.ev, Env.get, Env.set, Env.pick, putE, initEnv, evalBin, intBin, evalUn, evalConv, goneAll, goneOne, retV, resAll, Res.ev, tupOf, byVals, byValsN, bv_d, bv_da, bv_fl, bv_tl, bn_d, bn_da, bn_fl, bn_tl, cx, Dn.newObj, St.place, St.push, St.spot, St.empty, cell_d, cell_da, cell_agg, cell_ref, cell_sl, cell_fl, cell_tl, cell_map, cell_fn, cell_ifc, loadAt, faddrV, partOf, extractV, mkAgg, ofD, splice, St.setObj, fillV]
      exact fin _ _ _ _ htw3
    have hjj : (j : Int) < L.length := by omega
    have hcj : cs[j]? = some (cs[j]'(by omega)) := by simp [show j < cs.length by omega]
    have hql : q < σ3.objs.length := (List.getElem?_eq_some_iff.1 hob).1
    have hj1 : j + 1 ≤ cs.length := by omega
    simp -implicitDefEqProofs [body_eq, w_skip, w_ops, w_seq, w_cond, w_block, w_exit, w_ret, q_then_n, q_then_e, q_then_r, q_blk_n, q_blk_e, q_blk_r, q_ops, q_cont, q_end_n, q_end_r, q_end_e, q_loop_n, q_loop_e, q_loop_r, i_nil, i_p, i_alloc, i_box, i_store, i_copy, i_clear, i_make, i_call, i_callv, i_when, t_nil, t_p, t_call, t_alloc, t_box, t_store, kept_nil, t_copy, t_clear, t_make, q_tcont, gsel, List.cons_append, List.nil_append, evalP, evalE, Opd.ev, Env.get, Env.set, Env.pick, putE, initEnv, evalBin, intBin, evalUn, evalConv, goneAll, goneOne, retV, resAll, Res.ev, tupOf, byVals, byValsN, bv_d, bv_da, bv_fl, bv_tl, bn_d, bn_da, bn_fl, bn_tl, cx, Dn.newObj, St.place, St.push, St.spot, St.empty, cell_d, cell_da, cell_agg, cell_ref, cell_sl, cell_fl, cell_tl, cell_map, cell_fn, cell_ifc, loadAt, faddrV, partOf, extractV, mkAgg, ofD, splice, St.setObj, fillV, hjj, hjl, c4_k2, c4_k1, iaddrV, asIdx, hob, hcj, hj1, wrap_i64 (n := (j : Int) + 1) (by omega) (by omega)]
    refine ⟨L.length - (j + 1), by omega, j + 1, rfl, by omega, rfl, ⟨⟨?_, htw3.out.app.toks rfl⟩, htw3.app.toks rfl, htw3.ne⟩, cs.take j ++ bits .xor .u8 (cs[j]'(by omega)) 1 :: cs.drop (j + 1), by simp; omega, ?_⟩
    · simp only
      rw [List.getElem?_set_ne (by omega)]
      exact htw3.out.obj
    · simp only
      rw [List.getElem?_set_self hql]
      simp

end Go.Proofs.Ytjkedjjahjlmfaa.T

namespace Go.Proofs.Ytjkedjjahjlmfaa.T
open Go.Dn
set_option linter.unusedSimpArgs false
set_option linter.unusedVariables false

theorem hash_of : ∀ (n : Nat) {row : List D}, Lks (List.replicate n (.int .u8)) row → ∃ h : List UInt8, h.length = n ∧ row = hd h
  | 0, row, h => by
    simp only [List.replicate, Lks] at h
    exact ⟨[], rfl, h⟩
  | n + 1, row, h => by
    simp only [List.replicate_succ, Lks, Lk.fits] at h
    obtain ⟨d, r, rfl, ⟨m, rfl, h0, h1⟩, h2⟩ := h
    obtain ⟨h', rfl, rfl⟩ := hash_of n h2
    have e0 : (IntKind.u8.min : Int) = 0 := rfl
    have e1 : (IntKind.u8.max : Int) = 255 := rfl
    refine ⟨UInt8.ofNat m.toNat :: h', rfl, ?_⟩
    simp only [hd, List.map_cons, List.cons.injEq, and_true, UInt8.toNat_ofNat', D.int.injEq, true_and]
    omega

abbrev thingK : List Lk := [.int .i64, .int .i64, .int .u64, .str] ++ List.replicate 32 (.int .u8)

theorem thing_of {row : List D} (h : Lks thingK row) : ∃ t : TG, t.Ok ∧ row = t.row := by
  simp only [thingK, List.cons_append, List.nil_append, Lks, Lk.fits] at h
  obtain ⟨_, _, rfl, ⟨a, rfl, a0, a1⟩, _, _, rfl, ⟨b, rfl, b0, b1⟩, _, _, rfl, ⟨c, rfl, c0, c1⟩, _, _, rfl, ⟨s, rfl, _⟩, h⟩ := h
  obtain ⟨x, hx, rfl⟩ := hash_of 32 h
  exact ⟨⟨a, b, c, s, x⟩, ⟨⟨a0, a1⟩, ⟨b0, b1⟩, ⟨c0, c1⟩, hx⟩, rfl⟩

theorem things_of : ∀ {rows : List (List D)}, (∀ row ∈ rows, Lks thingK row) → ∃ l : List TG, (∀ t ∈ l, t.Ok) ∧ rows = thingRows l
  | [], _ => ⟨[], by simp, rfl⟩
  | r :: rows, h => by
    obtain ⟨l, hl, rfl⟩ := things_of (rows := rows) fun row hr => h row (by simp [hr])
    obtain ⟨t, ht, rfl⟩ := thing_of (h r (by simp))
    exact ⟨t :: l, by simpa using ⟨ht, hl⟩, rfl⟩

theorem things_fit {x : D} (hx : (Lk.list thingK).fits x) : ∃ l : List TG, (∀ t ∈ l, t.Ok) ∧ LV (.d x) (thingRows l) := by
  simp only [Lk.fits] at hx
  rcases hx with rfl | ⟨rows, rfl, _, h⟩
  · exact ⟨[], by simp, .nil⟩
  · obtain ⟨l, hl, rfl⟩ := things_of h
    exact ⟨l, hl, .list _⟩

theorem law4 {x : D} (hx : (Lk.list thingK).fits x) : Dn.Call Γ cx .val 4 [.d x] St.empty fun r _ => r = B true := by
  obtain ⟨l, hl, h⟩ := things_fit hx
  exact s4 h hl

end Go.Proofs.Ytjkedjjahjlmfaa.T

namespace Go.Proofs.Ytjkedjjahjlmfaa.T
open Go.Dn
set_option linter.unusedSimpArgs false
set_option linter.unusedVariables false

/-- slices.Clone of what may be written, into what may not. -/
theorem s_CloneS {σ : St} {q : Nat} {l : List UInt8} (hq : σ.objs[q]? = some (.cells (l.map fun b => Y b.toNat))) (hl : l.length ≤ 1099511627776) :
    Dn.Call Γ cx .raw 40 [.sl q 0 l.length 1] σ fun w s => App s 1 w (byteRows l) ∧ s.objs = σ.objs := by
  refine Dn.Call.body (fc := c40) rfl ?_
  simp -implicitDefEqProofs [body_eq, w_skip, w_ops, w_seq, w_cond, w_block, w_exit, w_ret, q_then_n, q_then_e, q_then_r, q_blk_n, q_blk_e, q_blk_r, q_ops, q_cont, q_end_n, q_end_r, q_end_e, q_loop_n, q_loop_e, q_loop_r, i_nil, i_p, i_alloc, i_box, i_store, i_copy, i_clear, i_make, i_call, i_callv, i_when, t_nil, t_p, t_call, t_alloc, t_box, t_store, kept_nil, t_copy, t_clear, t_make, q_tcont, gsel, List.cons_append, List.nil_append, evalP, evalE, Opd.ev, Env.get, Env.set, Env.pick, putE, initEnv, evalBin, intBin, evalUn, evalConv, goneAll, goneOne, retV, resAll, Res.ev, tupOf, byVals, byValsN, bv_d, bv_da, bv_fl, bv_tl, bn_d, bn_da, bn_fl, bn_tl, cx, Dn.newObj, St.place, St.push, St.spot, St.empty, cell_d, cell_da, cell_agg, cell_ref, cell_sl, cell_fl, cell_tl, cell_map, cell_fn, cell_ifc, loadAt, faddrV, partOf, extractV, mkAgg, ofD, splice, St.setObj, fillV, c40, c40_k2, c40_k1, c40_k0, eqV, V.isNil, Opd.isC, repl, rowsOf]
  obtain ⟨v1, σ1, hap, happ, ho, ht, hdv⟩ := (App.fl (σ := σ) (sz := 1) []).push (bytes := 1) (by decide) (by simp) (ys := byteRows l) (byteRows_fit _) (by simp [byteRows_len]; omega) (by simp [byteRows_len]; omega)
  rw [List.nil_append] at happ
  have hr : V.rows σ (.sl q 0 l.length 1) = some (byteRows l) := by
    simp only [V.rows, hq]
    have e : (l.map fun b => Y b.toNat) = (hd l).map V.d := by simp [hd]
    have : (List.take (l.length * 1) (List.drop 0 ((hd l).map V.d))) = (hd l).map V.d := List.take_of_length_le (by simp [hd_len])
    rw [e, this, ofD_hd]
    simp only
    rw [hd_rows]
  refine i_app_f (v := v1) (s := σ1) ?_ ?_
  · simp -implicitDefEqProofs [body_eq, w_skip, w_ops, w_seq, w_cond, w_block, w_exit, w_ret, q_then_n, q_then_e, q_then_r, q_blk_n, q_blk_e, q_blk_r, q_ops, q_cont, q_end_n, q_end_r, q_end_e, q_loop_n, q_loop_e, q_loop_r, i_nil, i_p, i_alloc, i_box, i_store, i_copy, i_clear, i_make, i_call, i_callv, i_when, t_nil, t_p, t_call, t_alloc, t_box, t_store, kept_nil, t_copy, t_clear, t_make, q_tcont, gsel, List.cons_append, List.nil_append, evalP, evalE, Opd.ev, Env.get, Env.set, Env.pick, putE, initEnv, evalBin, intBin, evalUn, evalConv, goneAll, goneOne, retV, resAll, Res.ev, tupOf, byVals, byValsN, bv_d, bv_da, bv_fl, bv_tl, bn_d, bn_da, bn_fl, bn_tl, cx, Dn.newObj, St.place, St.push, St.spot, St.empty, cell_d, cell_da, cell_agg, cell_ref, cell_sl, cell_fl, cell_tl, cell_map, cell_fn, cell_ifc, loadAt, faddrV, partOf, extractV, mkAgg, ofD, splice, St.setObj, fillV, hr]
    exact hap none
  · simp -implicitDefEqProofs [body_eq, w_skip, w_ops, w_seq, w_cond, w_block, w_exit, w_ret, q_then_n, q_then_e, q_then_r, q_blk_n, q_blk_e, q_blk_r, q_ops, q_cont, q_end_n, q_end_r, q_end_e, q_loop_n, q_loop_e, q_loop_r, i_nil, i_p, i_alloc, i_box, i_store, i_copy, i_clear, i_make, i_call, i_callv, i_when, t_nil, t_p, t_call, t_alloc, t_box, t_store, kept_nil, t_copy, t_clear, t_make, q_tcont, gsel, List.cons_append, List.nil_append, evalP, evalE, Opd.ev, Env.get, Env.set, Env.pick, putE, initEnv, evalBin, intBin, evalUn, evalConv, goneAll, goneOne, retV, resAll, Res.ev, tupOf, byVals, byValsN, bv_d, bv_da, bv_fl, bv_tl, bn_d, bn_da, bn_fl, bn_tl, cx, Dn.newObj, St.place, St.push, St.spot, St.empty, cell_d, cell_da, cell_agg, cell_ref, cell_sl, cell_fl, cell_tl, cell_map, cell_fn, cell_ifc, loadAt, faddrV, partOf, extractV, mkAgg, ofD, splice, St.setObj, fillV]
    exact ⟨happ, ho⟩

/-- A new reader; tokens may be new. -/
structure New2 (σ : St) (b : List UInt8) (w : V) (σ' : St) : Prop where
  ref : ∃ r v, w = .ref r 0 ∧ σ.objs.length ≤ r ∧ InAt σ' r (b, false) v
  fr : Fr [] σ σ'

theorem s_ReadM {σ0 σ : St} {v : V} {b : List UInt8} (h : MutB σ0 σ v b) (hl : b.length ≤ 1099511627776) : Dn.Call Γ cx .raw 22 [v] σ fun w σ' => New2 σ b w σ' := by
  rcases h with ⟨rfl, hn⟩ | ⟨q, rfl, hq, hob⟩
  · exact Call.mono (fun w s hw => ⟨hw.ref, hw.fr⟩) (s_Read (b := []) σ hn hl)
  · refine Dn.Call.body (fc := c22) rfl ?_
    simp -implicitDefEqProofs [body_eq, w_skip, w_ops, w_seq, w_cond, w_block, w_exit, w_ret, q_then_n, q_then_e, q_then_r, q_blk_n, q_blk_e, q_blk_r, q_ops, q_cont, q_end_n, q_end_r, q_end_e, q_loop_n, q_loop_e, q_loop_r, i_nil, i_p, i_alloc, i_box, i_store, i_copy, i_clear, i_make, i_call, i_callv, i_when, t_nil, t_p, t_call, t_alloc, t_box, t_store, kept_nil, t_copy, t_clear, t_make, q_tcont, gsel, List.cons_append, List.nil_append, evalP, evalE, Opd.ev, Env.get, Env.set, Env.pick, putE, initEnv, evalBin, intBin, evalUn, evalConv, goneAll, goneOne, retV, resAll, Res.ev, tupOf, byVals, byValsN, bv_d, bv_da, bv_fl, bv_tl, bn_d, bn_da, bn_fl, bn_tl, cx, Dn.newObj, St.place, St.push, St.spot, St.empty, cell_d, cell_da, cell_agg, cell_ref, cell_sl, cell_fl, cell_tl, cell_map, cell_fn, cell_ifc, loadAt, faddrV, partOf, extractV, mkAgg, ofD, splice, St.setObj, fillV, c22, c22_k0]
    refine use_raw (s_CloneS hob hl) fun w s ⟨happ, ho⟩ => ?_
    have key : ∀ w', w' = w → New2 σ b (.ref s.objs.length 0) ⟨s.objs ++ [.cells [w', B false]], s.toks⟩ := fun w' e => by
      subst e
      refine ⟨⟨_, w', rfl, ?_, by simp, ?_, happ.tls⟩, ⟨?_, fun q _ hq => ?_⟩⟩
      · rw [ho]; exact Nat.le_refl _
      · exact happ.lv
      · simp [ho]
      · simp only
        rw [List.getElem?_append_left (by rw [ho]; exact hq), ho]
    generalize hbr : byteRows b = rows at *
    cases happ with
    | nil => simp -implicitDefEqProofs [body_eq, w_skip, w_ops, w_seq, w_cond, w_block, w_exit, w_ret, q_then_n, q_then_e, q_then_r, q_blk_n, q_blk_e, q_blk_r, q_ops, q_cont, q_end_n, q_end_r, q_end_e, q_loop_n, q_loop_e, q_loop_r, i_nil, i_p, i_alloc, i_box, i_store, i_copy, i_clear, i_make, i_call, i_callv, i_when, t_nil, t_p, t_call, t_alloc, t_box, t_store, kept_nil, t_copy, t_clear, t_make, q_tcont, gsel, List.cons_append, List.nil_append, evalP, evalE, Opd.ev, Env.get, Env.set, Env.pick, putE, initEnv, evalBin, intBin, evalUn, evalConv, goneAll, goneOne, retV, resAll, Res.ev, tupOf, byVals, byValsN, bv_d, bv_da, bv_fl, bv_tl, bn_d, bn_da, bn_fl, bn_tl, cx, Dn.newObj, St.place, St.push, St.spot, St.empty, cell_d, cell_da, cell_agg, cell_ref, cell_sl, cell_fl, cell_tl, cell_map, cell_fn, cell_ifc, loadAt, faddrV, partOf, extractV, mkAgg, ofD, splice, St.setObj, fillV, ofD]; exact key _ rfl
    | fl => simp -implicitDefEqProofs [body_eq, w_skip, w_ops, w_seq, w_cond, w_block, w_exit, w_ret, q_then_n, q_then_e, q_then_r, q_blk_n, q_blk_e, q_blk_r, q_ops, q_cont, q_end_n, q_end_r, q_end_e, q_loop_n, q_loop_e, q_loop_r, i_nil, i_p, i_alloc, i_box, i_store, i_copy, i_clear, i_make, i_call, i_callv, i_when, t_nil, t_p, t_call, t_alloc, t_box, t_store, kept_nil, t_copy, t_clear, t_make, q_tcont, gsel, List.cons_append, List.nil_append, evalP, evalE, Opd.ev, Env.get, Env.set, Env.pick, putE, initEnv, evalBin, intBin, evalUn, evalConv, goneAll, goneOne, retV, resAll, Res.ev, tupOf, byVals, byValsN, bv_d, bv_da, bv_fl, bv_tl, bn_d, bn_da, bn_fl, bn_tl, cx, Dn.newObj, St.place, St.push, St.spot, St.empty, cell_d, cell_da, cell_agg, cell_ref, cell_sl, cell_fl, cell_tl, cell_map, cell_fn, cell_ifc, loadAt, faddrV, partOf, extractV, mkAgg, ofD, splice, St.setObj, fillV, ofD, V.cells]; exact key _ rfl
    | tl => simp -implicitDefEqProofs [body_eq, w_skip, w_ops, w_seq, w_cond, w_block, w_exit, w_ret, q_then_n, q_then_e, q_then_r, q_blk_n, q_blk_e, q_blk_r, q_ops, q_cont, q_end_n, q_end_r, q_end_e, q_loop_n, q_loop_e, q_loop_r, i_nil, i_p, i_alloc, i_box, i_store, i_copy, i_clear, i_make, i_call, i_callv, i_when, t_nil, t_p, t_call, t_alloc, t_box, t_store, kept_nil, t_copy, t_clear, t_make, q_tcont, gsel, List.cons_append, List.nil_append, evalP, evalE, Opd.ev, Env.get, Env.set, Env.pick, putE, initEnv, evalBin, intBin, evalUn, evalConv, goneAll, goneOne, retV, resAll, Res.ev, tupOf, byVals, byValsN, bv_d, bv_da, bv_fl, bv_tl, bn_d, bn_da, bn_fl, bn_tl, cx, Dn.newObj, St.place, St.push, St.spot, St.empty, cell_d, cell_da, cell_agg, cell_ref, cell_sl, cell_fl, cell_tl, cell_map, cell_fn, cell_ifc, loadAt, faddrV, partOf, extractV, mkAgg, ofD, splice, St.setObj, fillV, ofD, V.cells]; exact key _ rfl

def InvFlip2 (y : D) (r p q len : Nat) (s : Rd) (m : Nat) (e : Env) (σ : St) : Prop := ∃ (i : Nat), e = [(1, .d y), (5, .sl q 0 len 1), (6, .ref r 0), (7, .ref p 0), (38, I len), (39, I i)] ++ tail13 .any .any .any .any .any .any .any .any .any .any .any .any .any ∧ i ≤ len ∧ m = len - i ∧ Both σ r p s ∧ q ≠ r ∧ q ≠ p ∧ ∃ cs : List Int, cs.length = len ∧ σ.objs[q]? = some (.cells (cs.map Y))

def InvReads (y : D) (l : List TG) (r p : Nat) (m : Nat) (e : Env) (σ : St) : Prop := ∃ (i : Nat) (s : Rd) (x1 x2 x3 x4 x5 x6 x7 x8 x9 x10 x11 x12 x13 : V), e = [(6, .ref r 0), (7, .ref p 0), (49, .d y), (50, I l.length), (51, I i)] ++ tail13 x1 x2 x3 x4 x5 x6 x7 x8 x9 x10 x11 x12 x13 ∧ i ≤ l.length ∧ m = l.length - i ∧ Both σ r p s ∧ s.1.length ≤ 3000

theorem got_len (t : TG) (s : Rd) : (t.got s).1.length ≤ s.1.length := by
  unfold TG.got
  have hn : ∀ (s : Rd) (n : Int), (nextS s n).2.1.length ≤ s.1.length := fun s n => by
    unfold nextS
    split
    · simp [wrongS]
    · simp
  split
  · exact numS_len _ _
  split
  · exact countS_len _ _
  split
  · exact Nat.le_trans (hn _ _) (countS_len _ _)
  · exact hn _ _

/-- The rounds and the end. -/
theorem reads_loop {y : D} {l : List TG} (hy : LV (.d y) (thingRows l)) (hok : ∀ t ∈ l, t.Ok) (hl41 : l.length ≤ 41) {σ : St} {r p : Nat} {s : Rd} (h : Both σ r p s) (hs : s.1.length ≤ 3000) (e1 e2 e3 e4 : V) :
    wcode (Dn.Call Γ cx) cx c5_k26 ([(1, .d y), (5, e1), (6, .ref r 0), (7, .ref p 0), (38, e2), (39, e3), (40, e4)] ++ tail13 .any .any .any .any .any .any .any .any .any .any .any .any .any) σ (endQ .val St.empty [.tmp 4] fun v _ => v = B true) := by
  have hlen : (thingRows l).length = l.length := by simp [thingRows]
  simp -implicitDefEqProofs [body_eq, w_skip, w_ops, w_seq, w_cond, w_block, w_exit, w_ret, q_then_n, q_then_e, q_then_r, q_blk_n, q_blk_e, q_blk_r, q_ops, q_cont, q_end_n, q_end_r, q_end_e, q_loop_n, q_loop_e, q_loop_r, i_nil, i_p, i_alloc, i_box, i_store, i_copy, i_clear, i_make, i_call, i_callv, i_when, t_nil, t_p, t_call, t_alloc, t_box, t_store, kept_nil, t_copy, t_clear, t_make, q_tcont, gsel, List.cons_append, List.nil_append, evalP, evalE, Opd.ev, Env.get, Env.set, Env.pick, putE, initEnv, evalBin, intBin, evalUn, evalConv, goneAll, goneOne, retV, resAll, Res.ev, tupOf, byVals, byValsN, bv_d, bv_da, bv_fl, bv_tl, bn_d, bn_da, bn_fl, bn_tl, cx, Dn.newObj, St.place, St.push, St.spot, St.empty, cell_d, cell_da, cell_agg, cell_ref, cell_sl, cell_fl, cell_tl, cell_map, cell_fn, cell_ifc, loadAt, faddrV, partOf, extractV, mkAgg, ofD, splice, St.setObj, fillV, c5_k26, hy.len σ, hlen, c5_k25]
  refine wloopI (InvReads y l r p) (m := l.length) ⟨0, s, _, _, _, _, _, _, _, _, _, _, _, _, _, rfl, by omega, rfl, h, hs⟩ ?_
  rintro m e σ ⟨i, s, x1, x2, x3, x4, x5, x6, x7, x8, x9, x10, x11, x12, x13, rfl, hi, rfl, hB, hs⟩
  simp -implicitDefEqProofs [body_eq, w_skip, w_ops, w_seq, w_cond, w_block, w_exit, w_ret, q_then_n, q_then_e, q_then_r, q_blk_n, q_blk_e, q_blk_r, q_ops, q_cont, q_end_n, q_end_r, q_end_e, q_loop_n, q_loop_e, q_loop_r, i_nil, i_p, i_alloc, i_box, i_store, i_copy, i_clear, i_make, i_call, i_callv, i_when, t_nil, t_p, t_call, t_alloc, t_box, t_store, kept_nil, t_copy, t_clear, t_make, q_tcont, gsel, List.cons_append, List.nil_append, evalP, evalE, Opd.ev, Env.get, Env.set, Env.pick, putE, initEnv, evalBin, intBin, evalUn, evalConv, goneAll, goneOne, retV, resAll, Res.ev, tupOf, byVals, byValsN, bv_d, bv_da, bv_fl, bv_tl, bn_d, bn_da, bn_fl, bn_tl, cx, Dn.newObj, St.place, St.push, St.spot, St.empty, cell_d, cell_da, cell_agg, cell_ref, cell_sl, cell_fl, cell_tl, cell_map, cell_fn, cell_ifc, loadAt, faddrV, partOf, extractV, mkAgg, ofD, splice, St.setObj, fillV, c5_l24, c5_k23]
  obtain ⟨⟨v, hv⟩, ⟨b, hb, hlv⟩, hn⟩ := id hB
  have hrl : r < σ.objs.length := (List.getElem?_eq_some_iff.1 hv.obj).1
  have hpl : p < σ.objs.length := (List.getElem?_eq_some_iff.1 hb).1
  by_cases hlt : i < l.length
  · have hbi : l[i]? = some (l[i]) := by simp [hlt]
    have ht := hok _ (List.getElem_mem hlt)
    generalize hti : l[i] = t at *
    have hia := hy.iaddr σ (k := .i64) (sz := 36) (thingRows_at hbi) (TG.row_len ht)
    have hii : (i : Int) < l.length := by omega
    have hrl' := TG.row_len ht
    have htk : List.take 36 (List.map V.d t.row) = t.cells := List.take_of_length_le (by simp [hrl'])
    have hcl := TG.cells_len ht
    simp -implicitDefEqProofs [body_eq, w_skip, w_ops, w_seq, w_cond, w_block, w_exit, w_ret, q_then_n, q_then_e, q_then_r, q_blk_n, q_blk_e, q_blk_r, q_ops, q_cont, q_end_n, q_end_r, q_end_e, q_loop_n, q_loop_e, q_loop_r, i_nil, i_p, i_alloc, i_box, i_store, i_copy, i_clear, i_make, i_call, i_callv, i_when, t_nil, t_p, t_call, t_alloc, t_box, t_store, kept_nil, t_copy, t_clear, t_make, q_tcont, gsel, List.cons_append, List.nil_append, evalP, evalE, Opd.ev, Env.get, Env.set, Env.pick, putE, initEnv, evalBin, intBin, evalUn, evalConv, goneAll, goneOne, retV, resAll, Res.ev, tupOf, byVals, byValsN, bv_d, bv_da, bv_fl, bv_tl, bn_d, bn_da, bn_fl, bn_tl, cx, Dn.newObj, St.place, St.push, St.spot, St.empty, cell_d, cell_da, cell_agg, cell_ref, cell_sl, cell_fl, cell_tl, cell_map, cell_fn, cell_ifc, loadAt, faddrV, partOf, extractV, mkAgg, ofD, splice, St.setObj, fillV, hii, hlt, c5_k22, c5_k21, hia, hrl', htk, hcl]
    refine reads_step (q := σ.objs.length) (σ := ⟨σ.objs ++ [.cells t.cells], σ.toks⟩) (s := s) (hB.fr ⟨by simp, fun q _ hq => by simp [List.getElem?_append_left hq]⟩) (by omega) (by simp) (by omega) (by omega) ht ?_
    intro σ' hB' y1 y2 y3 y4 y5 y6 y7 y8 y9 y10 y11 y12
    simp -implicitDefEqProofs [body_eq, w_skip, w_ops, w_seq, w_cond, w_block, w_exit, w_ret, q_then_n, q_then_e, q_then_r, q_blk_n, q_blk_e, q_blk_r, q_ops, q_cont, q_end_n, q_end_r, q_end_e, q_loop_n, q_loop_e, q_loop_r, i_nil, i_p, i_alloc, i_box, i_store, i_copy, i_clear, i_make, i_call, i_callv, i_when, t_nil, t_p, t_call, t_alloc, t_box, t_store, kept_nil, t_copy, t_clear, t_make, q_tcont, gsel, List.cons_append, List.nil_append, evalP, evalE, Opd.ev, Env.get, Env.set, Env.pick, putE, initEnv, evalBin, intBin, evalUn, evalConv, goneAll, goneOne, retV, resAll, Res.ev, tupOf, byVals, byValsN, bv_d, bv_da, bv_fl, bv_tl, bn_d, bn_da, bn_fl, bn_tl, cx, Dn.newObj, St.place, St.push, St.spot, St.empty, cell_d, cell_da, cell_agg, cell_ref, cell_sl, cell_fl, cell_tl, cell_map, cell_fn, cell_ifc, loadAt, faddrV, partOf, extractV, mkAgg, ofD, splice, St.setObj, fillV, wrap_i64 (n := (i : Int) + 1) (by omega) (by omega)]
    exact ⟨l.length - (i + 1), by omega, i + 1, _, _, _, _, _, _, _, _, _, _, _, _, _, _, rfl, by omega, rfl, hB', Nat.le_trans (got_len t s) hs⟩
  obtain rfl : i = l.length := by omega
  simp -implicitDefEqProofs [body_eq, w_skip, w_ops, w_seq, w_cond, w_block, w_exit, w_ret, q_then_n, q_then_e, q_then_r, q_blk_n, q_blk_e, q_blk_r, q_ops, q_cont, q_end_n, q_end_r, q_end_e, q_loop_n, q_loop_e, q_loop_r, i_nil, i_p, i_alloc, i_box, i_store, i_copy, i_clear, i_make, i_call, i_callv, i_when, t_nil, t_p, t_call, t_alloc, t_box, t_store, kept_nil, t_copy, t_clear, t_make, q_tcont, gsel, List.cons_append, List.nil_append, evalP, evalE, Opd.ev, Env.get, Env.set, Env.pick, putE, initEnv, evalBin, intBin, evalUn, evalConv, goneAll, goneOne, retV, resAll, Res.ev, tupOf, byVals, byValsN, bv_d, bv_da, bv_fl, bv_tl, bn_d, bn_da, bn_fl, bn_tl, cx, Dn.newObj, St.place, St.push, St.spot, St.empty, cell_d, cell_da, cell_agg, cell_ref, cell_sl, cell_fl, cell_tl, cell_map, cell_fn, cell_ifc, loadAt, faddrV, partOf, extractV, mkAgg, ofD, splice, St.setObj, fillV, c5_k1]
  refine use_raw (s_End hv) fun w σ2 ⟨hw, hσ⟩ => ?_
  subst hw hσ
  unfold endV
  by_cases hc : (s.2 || decide (0 < s.1.length)) = true
  · rw [if_pos hc]
    simp -implicitDefEqProofs [body_eq, w_skip, w_ops, w_seq, w_cond, w_block, w_exit, w_ret, q_then_n, q_then_e, q_then_r, q_blk_n, q_blk_e, q_blk_r, q_ops, q_cont, q_end_n, q_end_r, q_end_e, q_loop_n, q_loop_e, q_loop_r, i_nil, i_p, i_alloc, i_box, i_store, i_copy, i_clear, i_make, i_call, i_callv, i_when, t_nil, t_p, t_call, t_alloc, t_box, t_store, kept_nil, t_copy, t_clear, t_make, q_tcont, gsel, List.cons_append, List.nil_append, evalP, evalE, Opd.ev, Env.get, Env.set, Env.pick, putE, initEnv, evalBin, intBin, evalUn, evalConv, goneAll, goneOne, retV, resAll, Res.ev, tupOf, byVals, byValsN, bv_d, bv_da, bv_fl, bv_tl, bn_d, bn_da, bn_fl, bn_tl, cx, Dn.newObj, St.place, St.push, St.spot, St.empty, cell_d, cell_da, cell_agg, cell_ref, cell_sl, cell_fl, cell_tl, cell_map, cell_fn, cell_ifc, loadAt, faddrV, partOf, extractV, mkAgg, ofD, splice, St.setObj, fillV, c5_k0, eqV, V.isNil, Opd.isC]
    refine use_fn rfl (s_Is 2 2 (by decide)) rfl ?_
    simp -implicitDefEqProofs [body_eq, w_skip, w_ops, w_seq, w_cond, w_block, w_exit, w_ret, q_then_n, q_then_e, q_then_r, q_blk_n, q_blk_e, q_blk_r, q_ops, q_cont, q_end_n, q_end_r, q_end_e, q_loop_n, q_loop_e, q_loop_r, i_nil, i_p, i_alloc, i_box, i_store, i_copy, i_clear, i_make, i_call, i_callv, i_when, t_nil, t_p, t_call, t_alloc, t_box, t_store, kept_nil, t_copy, t_clear, t_make, q_tcont, gsel, List.cons_append, List.nil_append, evalP, evalE, Opd.ev, Env.get, Env.set, Env.pick, putE, initEnv, evalBin, intBin, evalUn, evalConv, goneAll, goneOne, retV, resAll, Res.ev, tupOf, byVals, byValsN, bv_d, bv_da, bv_fl, bv_tl, bn_d, bn_da, bn_fl, bn_tl, cx, Dn.newObj, St.place, St.push, St.spot, St.empty, cell_d, cell_da, cell_agg, cell_ref, cell_sl, cell_fl, cell_tl, cell_map, cell_fn, cell_ifc, loadAt, faddrV, partOf, extractV, mkAgg, ofD, splice, St.setObj, fillV]
  · rw [if_neg hc]
    simp -implicitDefEqProofs [body_eq, w_skip, w_ops, w_seq, w_cond, w_block, w_exit, w_ret, q_then_n, q_then_e, q_then_r, q_blk_n, q_blk_e, q_blk_r, q_ops, q_cont, q_end_n, q_end_r, q_end_e, q_loop_n, q_loop_e, q_loop_r, i_nil, i_p, i_alloc, i_box, i_store, i_copy, i_clear, i_make, i_call, i_callv, i_when, t_nil, t_p, t_call, t_alloc, t_box, t_store, kept_nil, t_copy, t_clear, t_make, q_tcont, gsel, List.cons_append, List.nil_append, evalP, evalE, Opd.ev, Env.get, Env.set, Env.pick, putE, initEnv, evalBin, intBin, evalUn, evalConv, goneAll, goneOne, retV, resAll, Res.ev, tupOf, byVals, byValsN, bv_d, bv_da, bv_fl, bv_tl, bn_d, bn_da, bn_fl, bn_tl, cx, Dn.newObj, St.place, St.push, St.spot, St.empty, cell_d, cell_da, cell_agg, cell_ref, cell_sl, cell_fl, cell_tl, cell_map, cell_fn, cell_ifc, loadAt, faddrV, partOf, extractV, mkAgg, ofD, splice, St.setObj, fillV, c5_k0, eqV, V.isNil, Opd.isC]

theorem bytes_fit {x : D} (hx : (Lk.list [.int .u8]).fits x) : ∃ b : List UInt8, LV (.d x) (byteRows b) := by
  simp only [Lk.fits] at hx
  rcases hx with rfl | ⟨rows, rfl, _, h⟩
  · exact ⟨[], .nil⟩
  · obtain ⟨l, rfl⟩ := bytes_of_fits h
    exact ⟨l, .list _⟩

theorem s5 {x y : D} {b : List UInt8} {l : List TG} (hx : LV (.d x) (byteRows b)) (hy : LV (.d y) (thingRows l)) (hok : ∀ t ∈ l, t.Ok) : Dn.Call Γ cx .val 5 [.d x, .d y] St.empty fun v _ => v = B true := by
  refine Dn.Call.body (fc := c5) rfl ?_
  simp -implicitDefEqProofs [body_eq, w_skip, w_ops, w_seq, w_cond, w_block, w_exit, w_ret, q_then_n, q_then_e, q_then_r, q_blk_n, q_blk_e, q_blk_r, q_ops, q_cont, q_end_n, q_end_r, q_end_e, q_loop_n, q_loop_e, q_loop_r, i_nil, i_p, i_alloc, i_box, i_store, i_copy, i_clear, i_make, i_call, i_callv, i_when, t_nil, t_p, t_call, t_alloc, t_box, t_store, kept_nil, t_copy, t_clear, t_make, q_tcont, gsel, List.cons_append, List.nil_append, evalP, evalE, Opd.ev, Env.get, Env.set, Env.pick, putE, initEnv, evalBin, intBin, evalUn, evalConv, goneAll, goneOne, retV, resAll, Res.ev, tupOf, byVals, byValsN, bv_d, bv_da, bv_fl, bv_tl, bn_d, bn_da, bn_fl, bn_tl, cx, Dn.newObj, St.place, St.push, St.spot, St.empty, cell_d, cell_da, cell_agg, cell_ref, cell_sl, cell_fl, cell_tl, cell_map, cell_fn, cell_ifc, loadAt, faddrV, partOf, extractV, mkAgg, ofD, splice, St.setObj, fillV, c5, c5_k38]
  refine use_fn rfl s_alive rfl ?_
  simp -implicitDefEqProofs [body_eq, w_skip, w_ops, w_seq, w_cond, w_block, w_exit, w_ret, q_then_n, q_then_e, q_then_r, q_blk_n, q_blk_e, q_blk_r, q_ops, q_cont, q_end_n, q_end_r, q_end_e, q_loop_n, q_loop_e, q_loop_r, i_nil, i_p, i_alloc, i_box, i_store, i_copy, i_clear, i_make, i_call, i_callv, i_when, t_nil, t_p, t_call, t_alloc, t_box, t_store, kept_nil, t_copy, t_clear, t_make, q_tcont, gsel, List.cons_append, List.nil_append, evalP, evalE, Opd.ev, Env.get, Env.set, Env.pick, putE, initEnv, evalBin, intBin, evalUn, evalConv, goneAll, goneOne, retV, resAll, Res.ev, tupOf, byVals, byValsN, bv_d, bv_da, bv_fl, bv_tl, bn_d, bn_da, bn_fl, bn_tl, cx, Dn.newObj, St.place, St.push, St.spot, St.empty, cell_d, cell_da, cell_agg, cell_ref, cell_sl, cell_fl, cell_tl, cell_map, cell_fn, cell_ifc, loadAt, faddrV, partOf, extractV, mkAgg, ofD, splice, St.setObj, fillV, c5_k37, c5_k36]
  refine use_val (ds := [.d y]) rfl (s_long l hy hok) ?_
  rintro v s ⟨bb, rfl, hb⟩
  refine ⟨rfl, fun _ => rfl, ?_⟩
  cases bb with
  | true => simp -implicitDefEqProofs [body_eq, w_skip, w_ops, w_seq, w_cond, w_block, w_exit, w_ret, q_then_n, q_then_e, q_then_r, q_blk_n, q_blk_e, q_blk_r, q_ops, q_cont, q_end_n, q_end_r, q_end_e, q_loop_n, q_loop_e, q_loop_r, i_nil, i_p, i_alloc, i_box, i_store, i_copy, i_clear, i_make, i_call, i_callv, i_when, t_nil, t_p, t_call, t_alloc, t_box, t_store, kept_nil, t_copy, t_clear, t_make, q_tcont, gsel, List.cons_append, List.nil_append, evalP, evalE, Opd.ev, Env.get, Env.set, Env.pick, putE, initEnv, evalBin, intBin, evalUn, evalConv, goneAll, goneOne, retV, resAll, Res.ev, tupOf, byVals, byValsN, bv_d, bv_da, bv_fl, bv_tl, bn_d, bn_da, bn_fl, bn_tl, cx, Dn.newObj, St.place, St.push, St.spot, St.empty, cell_d, cell_da, cell_agg, cell_ref, cell_sl, cell_fl, cell_tl, cell_map, cell_fn, cell_ifc, loadAt, faddrV, partOf, extractV, mkAgg, ofD, splice, St.setObj, fillV, c5_k35]
  | false =>
  obtain ⟨hl41, hts⟩ := hb rfl
  have hxl : lenT St.empty .slice (.d x) = some b.length := by rw [hx.len, byteRows_len]
  simp only [St.empty] at hxl
  by_cases hbl : (3000 : Int) < b.length
  · simp -implicitDefEqProofs [body_eq, w_skip, w_ops, w_seq, w_cond, w_block, w_exit, w_ret, q_then_n, q_then_e, q_then_r, q_blk_n, q_blk_e, q_blk_r, q_ops, q_cont, q_end_n, q_end_r, q_end_e, q_loop_n, q_loop_e, q_loop_r, i_nil, i_p, i_alloc, i_box, i_store, i_copy, i_clear, i_make, i_call, i_callv, i_when, t_nil, t_p, t_call, t_alloc, t_box, t_store, kept_nil, t_copy, t_clear, t_make, q_tcont, gsel, List.cons_append, List.nil_append, evalP, evalE, Opd.ev, Env.get, Env.set, Env.pick, putE, initEnv, evalBin, intBin, evalUn, evalConv, goneAll, goneOne, retV, resAll, Res.ev, tupOf, byVals, byValsN, bv_d, bv_da, bv_fl, bv_tl, bn_d, bn_da, bn_fl, bn_tl, cx, Dn.newObj, St.place, St.push, St.spot, St.empty, cell_d, cell_da, cell_agg, cell_ref, cell_sl, cell_fl, cell_tl, cell_map, cell_fn, cell_ifc, loadAt, faddrV, partOf, extractV, mkAgg, ofD, splice, St.setObj, fillV, hxl, hbl, c5_k35]
  have hbl' : b.length ≤ 3000 := by omega
  simp -implicitDefEqProofs [body_eq, w_skip, w_ops, w_seq, w_cond, w_block, w_exit, w_ret, q_then_n, q_then_e, q_then_r, q_blk_n, q_blk_e, q_blk_r, q_ops, q_cont, q_end_n, q_end_r, q_end_e, q_loop_n, q_loop_e, q_loop_r, i_nil, i_p, i_alloc, i_box, i_store, i_copy, i_clear, i_make, i_call, i_callv, i_when, t_nil, t_p, t_call, t_alloc, t_box, t_store, kept_nil, t_copy, t_clear, t_make, q_tcont, gsel, List.cons_append, List.nil_append, evalP, evalE, Opd.ev, Env.get, Env.set, Env.pick, putE, initEnv, evalBin, intBin, evalUn, evalConv, goneAll, goneOne, retV, resAll, Res.ev, tupOf, byVals, byValsN, bv_d, bv_da, bv_fl, bv_tl, bn_d, bn_da, bn_fl, bn_tl, cx, Dn.newObj, St.place, St.push, St.spot, St.empty, cell_d, cell_da, cell_agg, cell_ref, cell_sl, cell_fl, cell_tl, cell_map, cell_fn, cell_ifc, loadAt, faddrV, partOf, extractV, mkAgg, ofD, splice, St.setObj, fillV, hxl, hbl, c5_k35, c5_k34, repl, rowsOf]
  -- behind the copy
  have rest : ∀ (w : V) (σ : St) (x1 : V), MutB St.empty σ w b → wcode (Dn.Call Γ cx) cx c5_k33 ([(0, .d x), (1, .d y), (5, w)] ++ tail13 .any .any .any .any .any .any .any .any .any .any .any .any .any) σ (endQ .val St.empty [.tmp 4] fun v _ => v = B true) := by
    intro w σ x1 hm
    simp -implicitDefEqProofs [body_eq, w_skip, w_ops, w_seq, w_cond, w_block, w_exit, w_ret, q_then_n, q_then_e, q_then_r, q_blk_n, q_blk_e, q_blk_r, q_ops, q_cont, q_end_n, q_end_r, q_end_e, q_loop_n, q_loop_e, q_loop_r, i_nil, i_p, i_alloc, i_box, i_store, i_copy, i_clear, i_make, i_call, i_callv, i_when, t_nil, t_p, t_call, t_alloc, t_box, t_store, kept_nil, t_copy, t_clear, t_make, q_tcont, gsel, List.cons_append, List.nil_append, evalP, evalE, Opd.ev, Env.get, Env.set, Env.pick, putE, initEnv, evalBin, intBin, evalUn, evalConv, goneAll, goneOne, retV, resAll, Res.ev, tupOf, byVals, byValsN, bv_d, bv_da, bv_fl, bv_tl, bn_d, bn_da, bn_fl, bn_tl, cx, Dn.newObj, St.place, St.push, St.spot, St.empty, cell_d, cell_da, cell_agg, cell_ref, cell_sl, cell_fl, cell_tl, cell_map, cell_fn, cell_ifc, loadAt, faddrV, partOf, extractV, mkAgg, ofD, splice, St.setObj, fillV, c5_k33]
    refine use_raw (s_ReadM hm (by omega)) fun u σ1 ⟨⟨r, v1, e, hr, hin⟩, hfr⟩ => ?_
    subst e
    simp -implicitDefEqProofs [body_eq, w_skip, w_ops, w_seq, w_cond, w_block, w_exit, w_ret, q_then_n, q_then_e, q_then_r, q_blk_n, q_blk_e, q_blk_r, q_ops, q_cont, q_end_n, q_end_r, q_end_e, q_loop_n, q_loop_e, q_loop_r, i_nil, i_p, i_alloc, i_box, i_store, i_copy, i_clear, i_make, i_call, i_callv, i_when, t_nil, t_p, t_call, t_alloc, t_box, t_store, kept_nil, t_copy, t_clear, t_make, q_tcont, gsel, List.cons_append, List.nil_append, evalP, evalE, Opd.ev, Env.get, Env.set, Env.pick, putE, initEnv, evalBin, intBin, evalUn, evalConv, goneAll, goneOne, retV, resAll, Res.ev, tupOf, byVals, byValsN, bv_d, bv_da, bv_fl, bv_tl, bn_d, bn_da, bn_fl, bn_tl, cx, Dn.newObj, St.place, St.push, St.spot, St.empty, cell_d, cell_da, cell_agg, cell_ref, cell_sl, cell_fl, cell_tl, cell_map, cell_fn, cell_ifc, loadAt, faddrV, partOf, extractV, mkAgg, ofD, splice, St.setObj, fillV, ofD]
    have hr1 : r < σ1.objs.length := (List.getElem?_eq_some_iff.1 hin.obj).1
    obtain ⟨σ2, hσ2⟩ : ∃ s1 : St, (⟨σ1.objs ++ [.cells [.d x, .d (.bool false)]], σ1.toks⟩ : St) = s1 := ⟨_, rfl⟩
    rw [hσ2]
    have f1 : Fr [] σ1 σ2 := ⟨by rw [← hσ2]; simp, fun q _ hq => by rw [← hσ2]; simp [List.getElem?_append_left hq]⟩
    have g1 : σ2.objs[σ1.objs.length]? = some (.cells [.d x, B false]) := by rw [← hσ2]; simp
    have hB : Both σ2 r σ1.objs.length (b, false) := ⟨⟨v1, f1.get hin.obj (by simp), hin.lv, hin.tl⟩, ⟨x, g1, hx⟩, by omega⟩
    rcases hm with ⟨rfl, hnl⟩ | ⟨q, rfl, hq, hcs⟩
    · simp -implicitDefEqProofs [body_eq, w_skip, w_ops, w_seq, w_cond, w_block, w_exit, w_ret, q_then_n, q_then_e, q_then_r, q_blk_n, q_blk_e, q_blk_r, q_ops, q_cont, q_end_n, q_end_r, q_end_e, q_loop_n, q_loop_e, q_loop_r, i_nil, i_p, i_alloc, i_box, i_store, i_copy, i_clear, i_make, i_call, i_callv, i_when, t_nil, t_p, t_call, t_alloc, t_box, t_store, kept_nil, t_copy, t_clear, t_make, q_tcont, gsel, List.cons_append, List.nil_append, evalP, evalE, Opd.ev, Env.get, Env.set, Env.pick, putE, initEnv, evalBin, intBin, evalUn, evalConv, goneAll, goneOne, retV, resAll, Res.ev, tupOf, byVals, byValsN, bv_d, bv_da, bv_fl, bv_tl, bn_d, bn_da, bn_fl, bn_tl, cx, Dn.newObj, St.place, St.push, St.spot, St.empty, cell_d, cell_da, cell_agg, cell_ref, cell_sl, cell_fl, cell_tl, cell_map, cell_fn, cell_ifc, loadAt, faddrV, partOf, extractV, mkAgg, ofD, splice, St.setObj, fillV, c5_k32, hnl.len σ2, c5_k31]
      refine wround ?_
      simp -implicitDefEqProofs [body_eq, w_skip, w_ops, w_seq, w_cond, w_block, w_exit, w_ret, q_then_n, q_then_e, q_then_r, q_blk_n, q_blk_e, q_blk_r, q_ops, q_cont, q_end_n, q_end_r, q_end_e, q_loop_n, q_loop_e, q_loop_r, i_nil, i_p, i_alloc, i_box, i_store, i_copy, i_clear, i_make, i_call, i_callv, i_when, t_nil, t_p, t_call, t_alloc, t_box, t_store, kept_nil, t_copy, t_clear, t_make, q_tcont, gsel, List.cons_append, List.nil_append, evalP, evalE, Opd.ev, Env.get, Env.set, Env.pick, putE, initEnv, evalBin, intBin, evalUn, evalConv, goneAll, goneOne, retV, resAll, Res.ev, tupOf, byVals, byValsN, bv_d, bv_da, bv_fl, bv_tl, bn_d, bn_da, bn_fl, bn_tl, cx, Dn.newObj, St.place, St.push, St.spot, St.empty, cell_d, cell_da, cell_agg, cell_ref, cell_sl, cell_fl, cell_tl, cell_map, cell_fn, cell_ifc, loadAt, faddrV, partOf, extractV, mkAgg, ofD, splice, St.setObj, fillV, c5_l30, c5_k29]
      exact reads_loop hy hok hl41 hB hbl' _ _ _ _
    · have hql : q < σ.objs.length := (List.getElem?_eq_some_iff.1 hcs).1
      simp -implicitDefEqProofs [body_eq, w_skip, w_ops, w_seq, w_cond, w_block, w_exit, w_ret, q_then_n, q_then_e, q_then_r, q_blk_n, q_blk_e, q_blk_r, q_ops, q_cont, q_end_n, q_end_r, q_end_e, q_loop_n, q_loop_e, q_loop_r, i_nil, i_p, i_alloc, i_box, i_store, i_copy, i_clear, i_make, i_call, i_callv, i_when, t_nil, t_p, t_call, t_alloc, t_box, t_store, kept_nil, t_copy, t_clear, t_make, q_tcont, gsel, List.cons_append, List.nil_append, evalP, evalE, Opd.ev, Env.get, Env.set, Env.pick, putE, initEnv, evalBin, intBin, evalUn, evalConv, goneAll, goneOne, retV, resAll, Res.ev, tupOf, byVals, byValsN, bv_d, bv_da, bv_fl, bv_tl, bn_d, bn_da, bn_fl, bn_tl, cx, Dn.newObj, St.place, St.push, St.spot, St.empty, cell_d, cell_da, cell_agg, cell_ref, cell_sl, cell_fl, cell_tl, cell_map, cell_fn, cell_ifc, loadAt, faddrV, partOf, extractV, mkAgg, ofD, splice, St.setObj, fillV, c5_k32, lenT, lenV, c5_k31]
      refine wloopI (InvFlip2 y r σ1.objs.length q b.length (b, false)) (m := b.length) ⟨0, rfl, by omega, rfl, hB, by omega, by have := hfr.len; omega, b.map (fun b => (b.toNat : Int)), by simp, by rw [f1.get (hfr.get hcs (by simp)) (by simp)]; simp⟩ ?_
      rintro m e σ3 ⟨j, rfl, hj, rfl, hB3, hqr, hqp, cs, hcl, hob⟩
      simp -implicitDefEqProofs [body_eq, w_skip, w_ops, w_seq, w_cond, w_block, w_exit, w_ret, q_then_n, q_then_e, q_then_r, q_blk_n, q_blk_e, q_blk_r, q_ops, q_cont, q_end_n, q_end_r, q_end_e, q_loop_n, q_loop_e, q_loop_r, i_nil, i_p, i_alloc, i_box, i_store, i_copy, i_clear, i_make, i_call, i_callv, i_when, t_nil, t_p, t_call, t_alloc, t_box, t_store, kept_nil, t_copy, t_clear, t_make, q_tcont, gsel, List.cons_append, List.nil_append, evalP, evalE, Opd.ev, Env.get, Env.set, Env.pick, putE, initEnv, evalBin, intBin, evalUn, evalConv, goneAll, goneOne, retV, resAll, Res.ev, tupOf, byVals, byValsN, bv_d, bv_da, bv_fl, bv_tl, bn_d, bn_da, bn_fl, bn_tl, cx, Dn.newObj, St.place, St.push, St.spot, St.empty, cell_d, cell_da, cell_agg, cell_ref, cell_sl, cell_fl, cell_tl, cell_map, cell_fn, cell_ifc, loadAt, faddrV, partOf, extractV, mkAgg, ofD, splice, St.setObj, fillV, c5_l30, c5_k29]
      by_cases hjl : j < b.length
      rotate_left
      · obtain rfl : j = b.length := by omega
        simp -implicitDefEqProofs [body_eq, w_skip, w_ops, w_seq, w_cond, w_block, w_exit, w_ret, q_then_n, q_then_e, q_then_r, q_blk_n, q_blk_e, q_blk_r, q_ops, q_cont, q_end_n, q_end_r, q_end_e, q_loop_n, q_loop_e, q_loop_r, i_nil, i_p, i_alloc, i_box, i_store, i_copy, i_clear, i_make, i_call, i_callv, i_when, t_nil, t_p, t_call, t_alloc, t_box, t_store, kept_nil, t_copy, t_clear, t_make, q_tcont, gsel, List.cons_append, List.nil_append, evalP, evalE, Opd.ev, Env.get, Env.set, Env.pick, putE, initEnv, evalBin, intBin, evalUn, evalConv, goneAll, goneOne, retV, resAll, Res.ev, tupOf, byVals, byValsN, bv_d, bv_da, bv_fl, bv_tl, bn_d, bn_da, bn_fl, bn_tl, cx, Dn.newObj, St.place, St.push, St.spot, St.empty, cell_d, cell_da, cell_agg, cell_ref, cell_sl, cell_fl, cell_tl, cell_map, cell_fn, cell_ifc, loadAt, faddrV, partOf, extractV, mkAgg, ofD, splice, St.setObj, fillV]
        exact reads_loop hy hok hl41 hB3 hbl' _ _ _ _
      have hjj : (j : Int) < b.length := by omega
      have hcj : cs[j]? = some (cs[j]'(by omega)) := by simp [show j < cs.length by omega]
      have hql : q < σ3.objs.length := (List.getElem?_eq_some_iff.1 hob).1
      have hj1 : j + 1 ≤ cs.length := by omega
      simp -implicitDefEqProofs [body_eq, w_skip, w_ops, w_seq, w_cond, w_block, w_exit, w_ret, q_then_n, q_then_e, q_then_r, q_blk_n, q_blk_e, q_blk_r, q_ops, q_cont, q_end_n, q_end_r, q_end_e, q_loop_n, q_loop_e, q_loop_r, i_nil, i_p, i_alloc, i_box, i_store, i_copy, i_clear, i_make, i_call, i_callv, i_when, t_nil, t_p, t_call, t_alloc, t_box, t_store, kept_nil, t_copy, t_clear, t_make, q_tcont, gsel, List.cons_append, List.nil_append, evalP, evalE, Opd.ev, Env.get, Env.set, Env.pick, putE, initEnv, evalBin, intBin, evalUn, evalConv, goneAll, goneOne, retV, resAll, Res.ev, tupOf, byVals, byValsN, bv_d, bv_da, bv_fl, bv_tl, bn_d, bn_da, bn_fl, bn_tl, cx, Dn.newObj, St.place, St.push, St.spot, St.empty, cell_d, cell_da, cell_agg, cell_ref, cell_sl, cell_fl, cell_tl, cell_map, cell_fn, cell_ifc, loadAt, faddrV, partOf, extractV, mkAgg, ofD, splice, St.setObj, fillV, hjj, hjl, c5_k28, c5_k27, iaddrV, asIdx, hob, hcj, hj1, wrap_i64 (n := (j : Int) + 1) (by omega) (by omega)]
      obtain ⟨⟨v, hv⟩, ⟨b0, hb0, hlv⟩, hn⟩ := hB3
      refine ⟨b.length - (j + 1), by omega, j + 1, rfl, by omega, rfl, ⟨⟨v, ?_, hv.lv, hv.tl⟩, ⟨b0, ?_, hlv⟩, hn⟩, hqr, hqp, cs.take j ++ bits .xor .u8 (cs[j]'(by omega)) 1 :: cs.drop (j + 1), by simp; omega, ?_⟩
      · simp only
        rw [List.getElem?_set_ne hqr]
        exact hv.obj
      · simp only
        rw [List.getElem?_set_ne hqp]
        exact hb0
      · simp only
        rw [List.getElem?_set_self hql]
        simp
  by_cases he : b = []
  · subst he
    refine i_app_f (v := .fl []) (s := ⟨[], []⟩) ?_ ?_
    · have hr := hx.rows ⟨[], []⟩
      simp [evalE, Opd.ev, Env.get, hr]
      simp [appendV, byteRows, fitR, V.rows]
    · simp -implicitDefEqProofs [body_eq, w_skip, w_ops, w_seq, w_cond, w_block, w_exit, w_ret, q_then_n, q_then_e, q_then_r, q_blk_n, q_blk_e, q_blk_r, q_ops, q_cont, q_end_n, q_end_r, q_end_e, q_loop_n, q_loop_e, q_loop_r, i_nil, i_p, i_alloc, i_box, i_store, i_copy, i_clear, i_make, i_call, i_callv, i_when, t_nil, t_p, t_call, t_alloc, t_box, t_store, kept_nil, t_copy, t_clear, t_make, q_tcont, gsel, List.cons_append, List.nil_append, evalP, evalE, Opd.ev, Env.get, Env.set, Env.pick, putE, initEnv, evalBin, intBin, evalUn, evalConv, goneAll, goneOne, retV, resAll, Res.ev, tupOf, byVals, byValsN, bv_d, bv_da, bv_fl, bv_tl, bn_d, bn_da, bn_fl, bn_tl, cx, Dn.newObj, St.place, St.push, St.spot, St.empty, cell_d, cell_da, cell_agg, cell_ref, cell_sl, cell_fl, cell_tl, cell_map, cell_fn, cell_ifc, loadAt, faddrV, partOf, extractV, mkAgg, ofD, splice, St.setObj, fillV]
      exact rest _ _ .any (.inl ⟨rfl, .fl _⟩)
  · have hne : byteRows b ≠ [] := by cases b with | nil => exact absurd rfl he | cons a r => simp [byteRows]
    refine i_app_m (v := .sl 0 0 b.length 1) (s := ⟨[.cells (b.map fun b => Y b.toNat)], []⟩) ?_ ?_
    · simp only [evalM, Opd.ev, Env.get]
      simp [hx.rows ⟨[], []⟩]
      rw [appendM_fl (by decide) (by simp) (byteRows_fit _) hne (by simp [byteRows_len]; omega) (by simp [byteRows_len]; omega)]
      rw [List.nil_append, byteRows_cells]
      simp [byteRows_len, St.push]
    · simp -implicitDefEqProofs [body_eq, w_skip, w_ops, w_seq, w_cond, w_block, w_exit, w_ret, q_then_n, q_then_e, q_then_r, q_blk_n, q_blk_e, q_blk_r, q_ops, q_cont, q_end_n, q_end_r, q_end_e, q_loop_n, q_loop_e, q_loop_r, i_nil, i_p, i_alloc, i_box, i_store, i_copy, i_clear, i_make, i_call, i_callv, i_when, t_nil, t_p, t_call, t_alloc, t_box, t_store, kept_nil, t_copy, t_clear, t_make, q_tcont, gsel, List.cons_append, List.nil_append, evalP, evalE, Opd.ev, Env.get, Env.set, Env.pick, putE, initEnv, evalBin, intBin, evalUn, evalConv, goneAll, goneOne, retV, resAll, Res.ev, tupOf, byVals, byValsN, bv_d, bv_da, bv_fl, bv_tl, bn_d, bn_da, bn_fl, bn_tl, cx, Dn.newObj, St.place, St.push, St.spot, St.empty, cell_d, cell_da, cell_agg, cell_ref, cell_sl, cell_fl, cell_tl, cell_map, cell_fn, cell_ifc, loadAt, faddrV, partOf, extractV, mkAgg, ofD, splice, St.setObj, fillV]
      exact rest _ _ .any (.inr ⟨_, rfl, by simp [St.empty], by simp⟩)

theorem law5 {x y : D} (hx : (Lk.list [.int .u8]).fits x) (hy : (Lk.list thingK).fits y) : Dn.Call Γ cx .val 5 [.d x, .d y] St.empty fun r _ => r = B true := by
  obtain ⟨l, hl, h⟩ := things_fit hy
  obtain ⟨b, hb⟩ := bytes_fit hx
  exact s5 hb h hl

end Go.Proofs.Ytjkedjjahjlmfaa.T

namespace Go.Proofs.Ytjkedjjahjlmfaa.T
open Go.Dn
set_option linter.unusedSimpArgs false
set_option linter.unusedVariables false

/-! what is read, put again -/
theorem byteAt_val : ∀ (l : List UInt8) (i : Nat) (h : i < l.length), byteAt (valB l) i = l[i]
  | [], i, h => by simp at h
  | b :: l, 0, h => by
    have hb := b.toNat_lt
    have := byteAt_nat (valB (b :: l) : Int) 0
    apply UInt8.toNat_inj.1
    simp only [valB, Nat.mul_zero, Int.pow_zero, Int.ediv_one, List.getElem_cons_zero] at this ⊢
    omega
  | b :: l, i + 1, h => by
    have hb := b.toNat_lt
    have ih := byteAt_val l i (by simpa using h)
    have h1 := byteAt_nat (valB (b :: l) : Int) (i + 1)
    have h2 := byteAt_nat (valB l : Int) i
    rw [ih] at h2
    apply UInt8.toNat_inj.1
    simp only [List.getElem_cons_succ]
    have e0 : valB (b :: l) / 2 ^ (8 * (i + 1)) = valB l / 2 ^ (8 * i) := by
      have h8 : valB (b :: l) / 2 ^ 8 = valB l := by
        simp only [valB]
        omega
      rw [show 8 * (i + 1) = 8 + 8 * i by omega, Nat.pow_add, ← Nat.div_div_eq_div_mul, h8]
    have e : ((valB (b :: l) : Nat) : Int) / 2 ^ (8 * (i + 1)) = (valB l : Int) / 2 ^ (8 * i) := by exact_mod_cast e0
    rw [e] at h1
    omega

theorem low_val (l : List UInt8) : low (valB l) l.length = l := by
  apply List.ext_getElem
  · simp [low_len]
  · intro i h1 h2
    simp only [low, List.getElem_map, List.getElem_range]
    exact byteAt_val l i h2

theorem num_put {s : Rd} {size : Int} (h : (numS s size).2.2 = false) : s.2 = false ∧ sized size = true ∧ numB (numS s size).1 size ++ (numS s size).2.1 = s.1 := by
  by_cases hs : sized size = true
  rotate_left
  · simp [numS, hs, wrongS] at h
  obtain ⟨h1, h2⟩ := numS_good hs h
  refine ⟨h1, hs, ?_⟩
  have h0 := sized_inv hs
  unfold numS at h ⊢
  rw [if_pos hs] at h ⊢
  unfold nextS at h ⊢
  split at h
  · simp [wrongS] at h
  · rename_i hn
    simp only [hn]
    simp at hn
    have hlen : (s.1.take size.toNat).length = size.toNat := by simp; omega
    have : numB (valB (s.1.take size.toNat)) size = s.1.take size.toNat := by
      unfold numB
      rw [if_pos hs]
      have := low_val (s.1.take size.toNat)
      rw [hlen] at this
      exact this
    simp [this]

theorem count_put {s : Rd} {most : Int} (h : (countS s most).2.2 = false) : countB (countS s most).1 ++ (countS s most).2.1 = s.1 := by
  rw [countS_ref] at h ⊢
  split at h
  · simp [wrongS] at h
  · rename_i hb
    rw [if_neg hb]
    unfold rcN at h ⊢
    have hp := numS_lt s 1
    have hp' := numS1_lt s
    have hg : (numS s 1).2.2 = false → _ := num_put (s := s) (size := 1)
    have hb' : rcBad s most (rcN s) = false := by simpa using hb
    unfold rcN at hb'
    generalize numS s 1 = p at *
    obtain ⟨n, s1⟩ := p
    simp only at hp hp' hg h hb' ⊢
    have one : numB n 1 = low n 1 := rfl
    by_cases hn : 253 ≤ n
    rotate_left
    · rw [if_neg hn] at h ⊢
      have := (hg h).2.2
      have hc : countB n = low n 1 := by unfold countB; rw [if_neg (by omega : ¬ n < 0), if_pos (by omega : n ≤ 252)]
      rw [hc, ← one]
      exact this
    · rw [if_pos hn] at h hb' ⊢
      have hsz : (if n = 255 then (8 : Int) else if n = 254 then 4 else 2) = sizeV n := by unfold sizeV; (repeat' split) <;> omega
      rw [hsz] at h hb' ⊢
      have hq := numS_lt s1 (sizeV n)
      have hgq := num_put (s := s1) (size := sizeV n) h
      have hgl := numS_good (s := s1) (size := sizeV n) hgq.2.1 h
      have h1 := (hg hgq.1).2.2
      have hg1 : ((s1.1.length : Int)) + 1 = s.1.length := by
        have := congrArg List.length h1
        simp [one, low_len] at this
        omega
      generalize numS s1 (sizeV n) = q at *
      obtain ⟨m, s2⟩ := q
      simp only at hq hgq hgl h hb' ⊢
      have hlen : ((countB m).length : Int) + s2.1.length = s.1.length := by
        simp [rcBad] at hb'
        exact hb'.2
      have hn3 : n = 253 ∨ n = 254 ∨ n = 255 := by omega
      have hcl : ((countB m).length : Int) = 1 + sizeV n := by omega
      have hm : countB m = UInt8.ofNat n.toNat :: low m (sizeV n).toNat := by
        unfold countB at hcl ⊢
        rw [if_neg (by omega : ¬ m < 0)] at hcl ⊢
        by_cases a1 : m ≤ 252
        · rw [if_pos a1] at hcl
          rcases hn3 with rfl | rfl | rfl <;> simp [sizeV, low_len] at hcl
        rw [if_neg a1] at hcl ⊢
        by_cases a2 : m ≤ 65535
        · rw [if_pos a2] at hcl ⊢
          rcases hn3 with rfl | rfl | rfl <;> simp [sizeV, low_len] at hcl ⊢
        rw [if_neg a2] at hcl ⊢
        by_cases a3 : m ≤ 4294967295
        · rw [if_pos a3] at hcl ⊢
          rcases hn3 with rfl | rfl | rfl <;> simp [sizeV, low_len] at hcl ⊢
        · rw [if_neg a3] at hcl ⊢
          rcases hn3 with rfl | rfl | rfl <;> simp [sizeV, low_len] at hcl ⊢
      have e1 : low n 1 = [UInt8.ofNat n.toNat] := by
        rcases hn3 with rfl | rfl | rfl <;> decide +kernel
      have e2 : numB m (sizeV n) = low m (sizeV n).toNat := by unfold numB; rw [if_pos hgq.2.1]
      rw [hm, ← e2, List.cons_append, hgq.2.2, ← h1, one, e1]
      rfl

theorem next_put {s : Rd} {n : Int} (h : (nextS s n).2.2 = false) : s.2 = false ∧ ((nextS s n).1.length : Int) = n ∧ (nextS s n).1 ++ (nextS s n).2.1 = s.1 := by
  unfold nextS at h ⊢
  split at h
  · simp [wrongS] at h
  · rename_i hn
    simp only [hn]
    simp [noNext] at hn
    refine ⟨hn.1.1, ?_, ?_⟩
    · simp; omega
    · simp

theorem numS_bad {s : Rd} (h : s.2 = true) (z : Int) : (numS s z).2.2 = true := by
  unfold numS
  split
  · simp [nextS, noNext, h, wrongS]
  · rfl

/-- What a thing that is read puts. -/
def TG.back (t : TG) (s : Rd) : List UInt8 := if t.kind = 0 then numB (numS s t.size).1 t.size else if t.kind = 1 then countB (countS s t.size).1 else if t.kind = 2 then countB (textS s t.size).1.length ++ (textS s t.size).1 else (hashS s).1

theorem back_put (t : TG) {s : Rd} (h : (t.got s).2 = false) : s.2 = false ∧ t.back s ++ (t.got s).1 = s.1 := by
  have hcb : ∀ m, (countS s m).2.2 = false → s.2 = false := fun m h => by
    cases hs : s.2 with
    | false => rfl
    | true =>
      have h1 : (numS s 1).2.2 = true := by
        have : sized 1 = true := rfl
        simp [numS, this, nextS, noNext, hs, wrongS]
      rw [countS_ref] at h
      have : rcBad s m (rcN s) = true := by
        unfold rcBad rcN
        simp only
        split
        · simp [numS_bad h1]
        · simp [h1]
      rw [this] at h
      simp [wrongS] at h
  unfold TG.got at h
  unfold TG.back TG.got
  split
  · rename_i h0
    rw [if_pos h0] at h
    have := num_put h
    exact ⟨this.1, this.2.2⟩
  · rename_i h0
    rw [if_neg h0] at h
    split
    · rename_i h1
      rw [if_pos h1] at h
      exact ⟨hcb _ h, count_put h⟩
    · rename_i h1
      rw [if_neg h1] at h
      split
      · rename_i h2
        rw [if_pos h2] at h
        unfold textS at h ⊢
        obtain ⟨a, b, c⟩ := next_put h
        have := count_put a
        refine ⟨hcb _ a, ?_⟩
        rw [b, List.append_assoc, c, this]
      · rename_i h2
        rw [if_neg h2] at h
        unfold hashS at h ⊢
        simp only at h ⊢
        obtain ⟨a, b, c⟩ := next_put h
        refine ⟨a, ?_⟩
        rw [List.take_append, List.take_of_length_le (by omega)]
        have : 32 - (nextS s 32).1.length = 0 := by omega
        rw [this, List.take_zero, List.append_nil]
        exact c

theorem back_len (t : TG) (s : Rd) (hs : s.1.length ≤ 3000) : (t.back s).length ≤ 4000 := by
  unfold TG.back
  split
  · have := numB_len (numS s t.size).1 t.size; omega
  split
  · have := countB_len (countS s t.size).1; omega
  split
  · have h1 := countB_len (textS s t.size).1.length
    have h2 : (textS s t.size).1.length ≤ s.1.length := by
      unfold textS nextS
      split
      · simp
      · have := countS_len s t.size
        simp only [List.length_take]
        omega
    simp only [List.length_append]
    omega
  · simp [hashS, -List.reduceReplicate]

/-! nil ones -/
theorem o_NumNil (σ : St) (n size : Int) : Dn.Call Γ cx .raw 13 [.d .nilp, U n, I size] σ fun _ σ' => σ' = σ := by
  refine Dn.Call.body (fc := c13) rfl ?_
  simp -implicitDefEqProofs [body_eq, w_skip, w_ops, w_seq, w_cond, w_block, w_exit, w_ret, q_then_n, q_then_e, q_then_r, q_blk_n, q_blk_e, q_blk_r, q_ops, q_cont, q_end_n, q_end_r, q_end_e, q_loop_n, q_loop_e, q_loop_r, i_nil, i_p, i_alloc, i_box, i_store, i_copy, i_clear, i_make, i_call, i_callv, i_when, t_nil, t_p, t_call, t_alloc, t_box, t_store, kept_nil, t_copy, t_clear, t_make, q_tcont, gsel, List.cons_append, List.nil_append, evalP, evalE, Opd.ev, Env.get, Env.set, Env.pick, putE, initEnv, evalBin, intBin, evalUn, evalConv, goneAll, goneOne, retV, resAll, Res.ev, tupOf, byVals, byValsN, bv_d, bv_da, bv_fl, bv_tl, bn_d, bn_da, bn_fl, bn_tl, cx, Dn.newObj, St.place, St.push, St.spot, St.empty, cell_d, cell_da, cell_agg, cell_ref, cell_sl, cell_fl, cell_tl, cell_map, cell_fn, cell_ifc, loadAt, faddrV, partOf, extractV, mkAgg, ofD, splice, St.setObj, fillV, c13, c13_k7, eqV, V.isNil, Opd.isC]
theorem o_CountNil (σ : St) (n : Int) : Dn.Call Γ cx .raw 15 [.d .nilp, I n] σ fun _ σ' => σ' = σ := by
  refine Dn.Call.body (fc := c15) rfl ?_
  simp -implicitDefEqProofs [body_eq, w_skip, w_ops, w_seq, w_cond, w_block, w_exit, w_ret, q_then_n, q_then_e, q_then_r, q_blk_n, q_blk_e, q_blk_r, q_ops, q_cont, q_end_n, q_end_r, q_end_e, q_loop_n, q_loop_e, q_loop_r, i_nil, i_p, i_alloc, i_box, i_store, i_copy, i_clear, i_make, i_call, i_callv, i_when, t_nil, t_p, t_call, t_alloc, t_box, t_store, kept_nil, t_copy, t_clear, t_make, q_tcont, gsel, List.cons_append, List.nil_append, evalP, evalE, Opd.ev, Env.get, Env.set, Env.pick, putE, initEnv, evalBin, intBin, evalUn, evalConv, goneAll, goneOne, retV, resAll, Res.ev, tupOf, byVals, byValsN, bv_d, bv_da, bv_fl, bv_tl, bn_d, bn_da, bn_fl, bn_tl, cx, Dn.newObj, St.place, St.push, St.spot, St.empty, cell_d, cell_da, cell_agg, cell_ref, cell_sl, cell_fl, cell_tl, cell_map, cell_fn, cell_ifc, loadAt, faddrV, partOf, extractV, mkAgg, ofD, splice, St.setObj, fillV, c15, c15_k4, eqV, V.isNil, Opd.isC]
theorem o_TextNil (σ : St) (t : List UInt8) : Dn.Call Γ cx .raw 17 [.d .nilp, .d (.str t)] σ fun _ σ' => σ' = σ := by
  refine Dn.Call.body (fc := c17) rfl ?_
  simp -implicitDefEqProofs [body_eq, w_skip, w_ops, w_seq, w_cond, w_block, w_exit, w_ret, q_then_n, q_then_e, q_then_r, q_blk_n, q_blk_e, q_blk_r, q_ops, q_cont, q_end_n, q_end_r, q_end_e, q_loop_n, q_loop_e, q_loop_r, i_nil, i_p, i_alloc, i_box, i_store, i_copy, i_clear, i_make, i_call, i_callv, i_when, t_nil, t_p, t_call, t_alloc, t_box, t_store, kept_nil, t_copy, t_clear, t_make, q_tcont, gsel, List.cons_append, List.nil_append, evalP, evalE, Opd.ev, Env.get, Env.set, Env.pick, putE, initEnv, evalBin, intBin, evalUn, evalConv, goneAll, goneOne, retV, resAll, Res.ev, tupOf, byVals, byValsN, bv_d, bv_da, bv_fl, bv_tl, bn_d, bn_da, bn_fl, bn_tl, cx, Dn.newObj, St.place, St.push, St.spot, St.empty, cell_d, cell_da, cell_agg, cell_ref, cell_sl, cell_fl, cell_tl, cell_map, cell_fn, cell_ifc, loadAt, faddrV, partOf, extractV, mkAgg, ofD, splice, St.setObj, fillV, c17, c17_k2, eqV, V.isNil, Opd.isC]
theorem o_HashNil (σ : St) (t : List UInt8) : Dn.Call Γ cx .raw 19 [.d .nilp, .da (hd t)] σ fun _ _ => True := by
  refine Dn.Call.body (fc := c19) rfl ?_
  simp -implicitDefEqProofs [body_eq, w_skip, w_ops, w_seq, w_cond, w_block, w_exit, w_ret, q_then_n, q_then_e, q_then_r, q_blk_n, q_blk_e, q_blk_r, q_ops, q_cont, q_end_n, q_end_r, q_end_e, q_loop_n, q_loop_e, q_loop_r, i_nil, i_p, i_alloc, i_box, i_store, i_copy, i_clear, i_make, i_call, i_callv, i_when, t_nil, t_p, t_call, t_alloc, t_box, t_store, kept_nil, t_copy, t_clear, t_make, q_tcont, gsel, List.cons_append, List.nil_append, evalP, evalE, Opd.ev, Env.get, Env.set, Env.pick, putE, initEnv, evalBin, intBin, evalUn, evalConv, goneAll, goneOne, retV, resAll, Res.ev, tupOf, byVals, byValsN, bv_d, bv_da, bv_fl, bv_tl, bn_d, bn_da, bn_fl, bn_tl, cx, Dn.newObj, St.place, St.push, St.spot, St.empty, cell_d, cell_da, cell_agg, cell_ref, cell_sl, cell_fl, cell_tl, cell_map, cell_fn, cell_ifc, loadAt, faddrV, partOf, extractV, mkAgg, ofD, splice, St.setObj, fillV, c19, c19_k1, c19_k0, eqV, V.isNil, Opd.isC]
theorem o_BytesNil (σ : St) : Dn.Call Γ cx .raw 21 [.d .nilp] σ fun w σ' => w = .d .nils ∧ σ' = σ := by
  refine Dn.Call.body (fc := c21) rfl ?_
  simp -implicitDefEqProofs [body_eq, w_skip, w_ops, w_seq, w_cond, w_block, w_exit, w_ret, q_then_n, q_then_e, q_then_r, q_blk_n, q_blk_e, q_blk_r, q_ops, q_cont, q_end_n, q_end_r, q_end_e, q_loop_n, q_loop_e, q_loop_r, i_nil, i_p, i_alloc, i_box, i_store, i_copy, i_clear, i_make, i_call, i_callv, i_when, t_nil, t_p, t_call, t_alloc, t_box, t_store, kept_nil, t_copy, t_clear, t_make, q_tcont, gsel, List.cons_append, List.nil_append, evalP, evalE, Opd.ev, Env.get, Env.set, Env.pick, putE, initEnv, evalBin, intBin, evalUn, evalConv, goneAll, goneOne, retV, resAll, Res.ev, tupOf, byVals, byValsN, bv_d, bv_da, bv_fl, bv_tl, bn_d, bn_da, bn_fl, bn_tl, cx, Dn.newObj, St.place, St.push, St.spot, St.empty, cell_d, cell_da, cell_agg, cell_ref, cell_sl, cell_fl, cell_tl, cell_map, cell_fn, cell_ifc, loadAt, faddrV, partOf, extractV, mkAgg, ofD, splice, St.setObj, fillV, c21, c21_k2, c21_k1, eqV, V.isNil, Opd.isC]

theorem s_gHashNil (σ : St) : Dn.Call Γ cx .raw 30 [.d .nilp] σ fun w _ => w = .da (hd (List.replicate 32 0)) := by
  refine Dn.Call.body (fc := c30) rfl ?_
  simp -implicitDefEqProofs [body_eq, w_skip, w_ops, w_seq, w_cond, w_block, w_exit, w_ret, q_then_n, q_then_e, q_then_r, q_blk_n, q_blk_e, q_blk_r, q_ops, q_cont, q_end_n, q_end_r, q_end_e, q_loop_n, q_loop_e, q_loop_r, i_nil, i_p, i_alloc, i_box, i_store, i_copy, i_clear, i_make, i_call, i_callv, i_when, t_nil, t_p, t_call, t_alloc, t_box, t_store, kept_nil, t_copy, t_clear, t_make, q_tcont, gsel, List.cons_append, List.nil_append, evalP, evalE, Opd.ev, Env.get, Env.set, Env.pick, putE, initEnv, evalBin, intBin, evalUn, evalConv, goneAll, goneOne, retV, resAll, Res.ev, tupOf, byVals, byValsN, bv_d, bv_da, bv_fl, bv_tl, bn_d, bn_da, bn_fl, bn_tl, cx, Dn.newObj, St.place, St.push, St.spot, St.empty, cell_d, cell_da, cell_agg, cell_ref, cell_sl, cell_fl, cell_tl, cell_map, cell_fn, cell_ifc, loadAt, faddrV, partOf, extractV, mkAgg, ofD, splice, St.setObj, fillV, -List.reduceReplicate, c30, c30_k2, c30_k1]
  obtain ⟨σ1, hσ1⟩ : ∃ s : St, (⟨σ.objs ++ [.cells (List.replicate 32 (.d (.int .u8 0))), .cells (List.replicate 32 (.d (.int .u8 0)))], σ.toks⟩ : St) = s := ⟨_, rfl⟩
  rw [hσ1]
  have g2 : σ1.objs[σ.objs.length]? = some (.cells (List.replicate 32 (.d (.int .u8 0)))) := by rw [← hσ1]; simp [-List.reduceReplicate]
  have g3 : σ1.objs[σ.objs.length + 1]? = some (.cells (List.replicate 32 (.d (.int .u8 0)))) := by rw [← hσ1]; simp [-List.reduceReplicate]
  have gl : σ1.objs.length = σ.objs.length + 2 := by rw [← hσ1]; simp
  refine w_drw (fun _ => .raw) [3] (by decide +kernel) ?_
  simp -implicitDefEqProofs [body_eq, w_skip, w_ops, w_seq, w_cond, w_block, w_exit, w_ret, q_then_n, q_then_e, q_then_r, q_blk_n, q_blk_e, q_blk_r, q_ops, q_cont, q_end_n, q_end_r, q_end_e, q_loop_n, q_loop_e, q_loop_r, i_nil, i_p, i_alloc, i_box, i_store, i_copy, i_clear, i_make, i_call, i_callv, i_when, t_nil, t_p, t_call, t_alloc, t_box, t_store, kept_nil, t_copy, t_clear, t_make, q_tcont, gsel, List.cons_append, List.nil_append, evalP, evalE, Opd.ev, Env.get, Env.set, Env.pick, putE, initEnv, evalBin, intBin, evalUn, evalConv, goneAll, goneOne, retV, resAll, Res.ev, tupOf, byVals, byValsN, bv_d, bv_da, bv_fl, bv_tl, bn_d, bn_da, bn_fl, bn_tl, cx, Dn.newObj, St.place, St.push, St.spot, St.empty, cell_d, cell_da, cell_agg, cell_ref, cell_sl, cell_fl, cell_tl, cell_map, cell_fn, cell_ifc, loadAt, faddrV, partOf, extractV, mkAgg, ofD, splice, St.setObj, fillV, -List.reduceReplicate, sliceArrV, boundV, room_zero, g3]
  refine use_rawN rfl (s_nextNil σ1 32) ⟨_, _, rfl, rfl⟩ fun w s2 ⟨hw, hg⟩ => ⟨?_, ?_⟩
  · subst hg
    exact Kept.refl _ _ _
  · subst hw hg
    have hz : ofD (List.replicate 32 (V.d (.int .u8 0))) = some (hd (List.replicate 32 0)) := by
      have : List.replicate 32 (V.d (.int .u8 0)) = (hd (List.replicate 32 0)).map V.d := by simp [hd, -List.reduceReplicate]
      rw [this, ofD_hd]
    have h3l : σ.objs.length + 1 < s2.objs.length := (List.getElem?_eq_some_iff.1 g3).1
    have hcp : copyV s2 1 (.sl (σ.objs.length + 1) 0 32 1) [] = some (.d (.int .i64 0), s2.setObj (σ.objs.length + 1) (.cells (List.replicate 32 (.d (.int .u8 0))))) := by
      unfold copyV
      simp [fitR, g3, splice, -List.reduceReplicate]
    have q3 : (s2.objs.set (σ.objs.length + 1) (.cells (List.replicate 32 (.d (.int .u8 0)))))[σ.objs.length + 1]? = some (.cells (List.replicate 32 (.d (.int .u8 0)))) := List.getElem?_set_self h3l
    have q2 : (s2.objs.set (σ.objs.length + 1) (.cells (List.replicate 32 (.d (.int .u8 0)))))[σ.objs.length]? = some (.cells (List.replicate 32 (.d (.int .u8 0)))) := by rw [List.getElem?_set_ne (by omega)]; exact g2
    have hset2 : ∀ c : Dn.Obj, ((s2.objs.set (σ.objs.length + 1) (.cells (List.replicate 32 (.d (.int .u8 0))))).set σ.objs.length c)[σ.objs.length]? = some c := fun c => List.getElem?_set_self (by rw [List.length_set]; omega)
    have htk : List.take 32 (List.replicate 32 (V.d (.int .u8 0))) = List.replicate 32 (V.d (.int .u8 0)) := List.take_of_length_le (by simp [-List.reduceReplicate])
    have hdl : (hd (List.replicate 32 0)).length = 32 := by simp [hd, -List.reduceReplicate]
    have hmz : List.map V.d (hd (List.replicate 32 0)) = List.replicate 32 (V.d (.int .u8 0)) := by simp [hd, -List.reduceReplicate]
    simp -implicitDefEqProofs [body_eq, w_skip, w_ops, w_seq, w_cond, w_block, w_exit, w_ret, q_then_n, q_then_e, q_then_r, q_blk_n, q_blk_e, q_blk_r, q_ops, q_cont, q_end_n, q_end_r, q_end_e, q_loop_n, q_loop_e, q_loop_r, i_nil, i_p, i_alloc, i_box, i_store, i_copy, i_clear, i_make, i_call, i_callv, i_when, t_nil, t_p, t_call, t_alloc, t_box, t_store, kept_nil, t_copy, t_clear, t_make, q_tcont, gsel, List.cons_append, List.nil_append, evalP, evalE, Opd.ev, Env.get, Env.set, Env.pick, putE, initEnv, evalBin, intBin, evalUn, evalConv, goneAll, goneOne, retV, resAll, Res.ev, tupOf, byVals, byValsN, bv_d, bv_da, bv_fl, bv_tl, bn_d, bn_da, bn_fl, bn_tl, cx, Dn.newObj, St.place, St.push, St.spot, St.empty, cell_d, cell_da, cell_agg, cell_ref, cell_sl, cell_fl, cell_tl, cell_map, cell_fn, cell_ifc, loadAt, faddrV, partOf, extractV, mkAgg, ofD, splice, St.setObj, fillV, -List.reduceReplicate, V.rows, hcp, c30_k0, St.setObj, q3, q2, htk, hz, hdl, hmz, hset2]

end Go.Proofs.Ytjkedjjahjlmfaa.T
