import Derived.Test.YtjkedjjahjlmfaaB11
import Derived.Test.YtjkedjjahjlmfaaFw35
import Derived.Test.YtjkedjjahjlmfaaB17
namespace Go.Proofs.Ytjkedjjahjlmfaa.T
open Go.Dn
set_option linter.unusedSimpArgs false
set_option linter.unusedVariables false

def InvPuts (y : D) (l : List TG) (m : Nat) (e : Env) (σ : St) : Prop := ∃ (i : Nat) (v w : V) (L : List UInt8), e = [(3, .ref 0 0), (4, w), (16, .d y), (17, I l.length), (18, I i)] ∧ i ≤ l.length ∧ m = l.length - i ∧ Two σ 0 v w L ∧ L.length ≤ i * 4000

def InvFlip (w : V) (q len : Nat) (v : V) (L : List UInt8) (m : Nat) (e : Env) (σ : St) : Prop := ∃ (i : Nat), e = [(3, .ref 0 0), (4, w), (7, .sl q 0 len 1), (80, I len), (81, I i)] ∧ i ≤ len ∧ m = len - i ∧ Two σ 0 v w L ∧ ∃ cs : List Int, cs.length = len ∧ σ.objs[q]? = some (.cells (cs.map Y))

theorem s4 {y : D} {l : List TG} (hy : LV (.d y) (thingRows l)) (hok : ∀ t ∈ l, t.Ok) : Dn.Call Γ cx .val 4 [.d y] St.empty fun v _ => v = B true := by
  refine Dn.Call.body (fc := c4) rfl ?_
  have hlen : (thingRows l).length = l.length := by simp [thingRows]
  simp -implicitDefEqProofs [body_eq, w_skip, w_ops, w_seq, w_cond, w_block, w_exit, w_ret, q_then_n, q_then_e, q_then_r, q_blk_n, q_blk_e, q_blk_r, q_ops, q_cont, q_end_n, q_end_r, q_end_e, q_loop_n, q_loop_e, q_loop_r, i_nil, i_p, i_alloc, i_box, i_store, i_copy, i_clear, i_make, i_call, i_callv, i_when, t_nil, t_p, t_call, t_alloc, t_box, t_store, kept_nil, t_copy, t_clear, t_make, q_tcont, gsel, List.cons_append, List.nil_append, evalP, evalE, Opd.ev, Env.get, Env.set, Env.pick, putE, initEnv, evalBin, intBin, evalUn, evalConv, goneAll, goneOne, retV, resAll, Res.ev, tupOf, byVals, byValsN, bv_d, bv_da, bv_fl, bv_tl, bn_d, bn_da, bn_fl, bn_tl, cx, Dn.newObj, St.place, St.push, St.spot, St.empty, cell_d, cell_da, cell_agg, cell_ref, cell_sl, cell_fl, cell_tl, cell_map, cell_fn, cell_ifc, loadAt, faddrV, partOf, extractV, mkAgg, ofD, splice, St.setObj, fillV, c4, c4_k34]
  refine use_fn rfl s_alive rfl ?_
  simp -implicitDefEqProofs [body_eq, w_skip, w_ops, w_seq, w_cond, w_block, w_exit, w_ret, q_then_n, q_then_e, q_then_r, q_blk_n, q_blk_e, q_blk_r, q_ops, q_cont, q_end_n, q_end_r, q_end_e, q_loop_n, q_loop_e, q_loop_r, i_nil, i_p, i_alloc, i_box, i_store, i_copy, i_clear, i_make, i_call, i_callv, i_when, t_nil, t_p, t_call, t_alloc, t_box, t_store, kept_nil, t_copy, t_clear, t_make, q_tcont, gsel, List.cons_append, List.nil_append, evalP, evalE, Opd.ev, Env.get, Env.set, Env.pick, putE, initEnv, evalBin, intBin, evalUn, evalConv, goneAll, goneOne, retV, resAll, Res.ev, tupOf, byVals, byValsN, bv_d, bv_da, bv_fl, bv_tl, bn_d, bn_da, bn_fl, bn_tl, cx, Dn.newObj, St.place, St.push, St.spot, St.empty, cell_d, cell_da, cell_agg, cell_ref, cell_sl, cell_fl, cell_tl, cell_map, cell_fn, cell_ifc, loadAt, faddrV, partOf, extractV, mkAgg, ofD, splice, St.setObj, fillV, c4_k33, c4_k32]
  refine use_val (ds := [.d y]) rfl (s_long l hy hok) ?_
  rintro v s ⟨b, rfl, hb⟩
  refine ⟨rfl, fun _ => rfl, ?_⟩
  cases b with
  | true => simp -implicitDefEqProofs [body_eq, w_skip, w_ops, w_seq, w_cond, w_block, w_exit, w_ret, q_then_n, q_then_e, q_then_r, q_blk_n, q_blk_e, q_blk_r, q_ops, q_cont, q_end_n, q_end_r, q_end_e, q_loop_n, q_loop_e, q_loop_r, i_nil, i_p, i_alloc, i_box, i_store, i_copy, i_clear, i_make, i_call, i_callv, i_when, t_nil, t_p, t_call, t_alloc, t_box, t_store, kept_nil, t_copy, t_clear, t_make, q_tcont, gsel, List.cons_append, List.nil_append, evalP, evalE, Opd.ev, Env.get, Env.set, Env.pick, putE, initEnv, evalBin, intBin, evalUn, evalConv, goneAll, goneOne, retV, resAll, Res.ev, tupOf, byVals, byValsN, bv_d, bv_da, bv_fl, bv_tl, bn_d, bn_da, bn_fl, bn_tl, cx, Dn.newObj, St.place, St.push, St.spot, St.empty, cell_d, cell_da, cell_agg, cell_ref, cell_sl, cell_fl, cell_tl, cell_map, cell_fn, cell_ifc, loadAt, faddrV, partOf, extractV, mkAgg, ofD, splice, St.setObj, fillV, c4_k31]
  | false =>
  obtain ⟨hl41, hts⟩ := hb rfl
  simp -implicitDefEqProofs [body_eq, w_skip, w_ops, w_seq, w_cond, w_block, w_exit, w_ret, q_then_n, q_then_e, q_then_r, q_blk_n, q_blk_e, q_blk_r, q_ops, q_cont, q_end_n, q_end_r, q_end_e, q_loop_n, q_loop_e, q_loop_r, i_nil, i_p, i_alloc, i_box, i_store, i_copy, i_clear, i_make, i_call, i_callv, i_when, t_nil, t_p, t_call, t_alloc, t_box, t_store, kept_nil, t_copy, t_clear, t_make, q_tcont, gsel, List.cons_append, List.nil_append, evalP, evalE, Opd.ev, Env.get, Env.set, Env.pick, putE, initEnv, evalBin, intBin, evalUn, evalConv, goneAll, goneOne, retV, resAll, Res.ev, tupOf, byVals, byValsN, bv_d, bv_da, bv_fl, bv_tl, bn_d, bn_da, bn_fl, bn_tl, cx, Dn.newObj, St.place, St.push, St.spot, St.empty, cell_d, cell_da, cell_agg, cell_ref, cell_sl, cell_fl, cell_tl, cell_map, cell_fn, cell_ifc, loadAt, faddrV, partOf, extractV, mkAgg, ofD, splice, St.setObj, fillV, c4_k31, c4_k30, c4_k29, c4_k28, c4_k27, repl, rowsOf]
  obtain ⟨σ1, hσ1⟩ : ∃ s : St, (⟨[.cells [V.d .nils]], []⟩ : St) = s := ⟨_, rfl⟩
  rw [hσ1]
  simp -implicitDefEqProofs [body_eq, w_skip, w_ops, w_seq, w_cond, w_block, w_exit, w_ret, q_then_n, q_then_e, q_then_r, q_blk_n, q_blk_e, q_blk_r, q_ops, q_cont, q_end_n, q_end_r, q_end_e, q_loop_n, q_loop_e, q_loop_r, i_nil, i_p, i_alloc, i_box, i_store, i_copy, i_clear, i_make, i_call, i_callv, i_when, t_nil, t_p, t_call, t_alloc, t_box, t_store, kept_nil, t_copy, t_clear, t_make, q_tcont, gsel, List.cons_append, List.nil_append, evalP, evalE, Opd.ev, Env.get, Env.set, Env.pick, putE, initEnv, evalBin, intBin, evalUn, evalConv, goneAll, goneOne, retV, resAll, Res.ev, tupOf, byVals, byValsN, bv_d, bv_da, bv_fl, bv_tl, bn_d, bn_da, bn_fl, bn_tl, cx, Dn.newObj, St.place, St.push, St.spot, St.empty, cell_d, cell_da, cell_agg, cell_ref, cell_sl, cell_fl, cell_tl, cell_map, cell_fn, cell_ifc, loadAt, faddrV, partOf, extractV, mkAgg, ofD, splice, St.setObj, fillV, hy.len σ1, hlen]
  have h1 : Two σ1 0 (.d .nils) (.fl []) [] := ⟨⟨by rw [← hσ1]; simp, by simpa [byteRows] using App.nil⟩, by simpa [byteRows] using App.fl [], fun t e => by cases e⟩
  refine wloopI (InvPuts y l) (m := l.length) ⟨0, _, _, _, rfl, by omega, rfl, h1, by simp⟩ ?_
  rintro m e σ ⟨i, v, w, L, rfl, hi, rfl, htw, hL⟩
  simp -implicitDefEqProofs [body_eq, w_skip, w_ops, w_seq, w_cond, w_block, w_exit, w_ret, q_then_n, q_then_e, q_then_r, q_blk_n, q_blk_e, q_blk_r, q_ops, q_cont, q_end_n, q_end_r, q_end_e, q_loop_n, q_loop_e, q_loop_r, i_nil, i_p, i_alloc, i_box, i_store, i_copy, i_clear, i_make, i_call, i_callv, i_when, t_nil, t_p, t_call, t_alloc, t_box, t_store, kept_nil, t_copy, t_clear, t_make, q_tcont, gsel, List.cons_append, List.nil_append, evalP, evalE, Opd.ev, Env.get, Env.set, Env.pick, putE, initEnv, evalBin, intBin, evalUn, evalConv, goneAll, goneOne, retV, resAll, Res.ev, tupOf, byVals, byValsN, bv_d, bv_da, bv_fl, bv_tl, bn_d, bn_da, bn_fl, bn_tl, cx, Dn.newObj, St.place, St.push, St.spot, St.empty, cell_d, cell_da, cell_agg, cell_ref, cell_sl, cell_fl, cell_tl, cell_map, cell_fn, cell_ifc, loadAt, faddrV, partOf, extractV, mkAgg, ofD, splice, St.setObj, fillV, c4_l26, c4_k25]
  by_cases hlt : i < l.length
  · have hb : l[i]? = some (l[i]) := by simp [hlt]
    have ht := hok _ (List.getElem_mem hlt)
    have hs := hts _ (List.getElem_mem hlt)
    generalize hti : l[i] = t at *
    have hia := hy.iaddr σ (k := .i64) (sz := 36) (thingRows_at hb) (TG.row_len ht)
    have hii : (i : Int) < l.length := by omega
    have hrl := TG.row_len ht
    have htk : List.take 36 (List.map V.d t.row) = t.cells := List.take_of_length_le (by simp [hrl])
    have hcl := TG.cells_len ht
    simp -implicitDefEqProofs [body_eq, w_skip, w_ops, w_seq, w_cond, w_block, w_exit, w_ret, q_then_n, q_then_e, q_then_r, q_blk_n, q_blk_e, q_blk_r, q_ops, q_cont, q_end_n, q_end_r, q_end_e, q_loop_n, q_loop_e, q_loop_r, i_nil, i_p, i_alloc, i_box, i_store, i_copy, i_clear, i_make, i_call, i_callv, i_when, t_nil, t_p, t_call, t_alloc, t_box, t_store, kept_nil, t_copy, t_clear, t_make, q_tcont, gsel, List.cons_append, List.nil_append, evalP, evalE, Opd.ev, Env.get, Env.set, Env.pick, putE, initEnv, evalBin, intBin, evalUn, evalConv, goneAll, goneOne, retV, resAll, Res.ev, tupOf, byVals, byValsN, bv_d, bv_da, bv_fl, bv_tl, bn_d, bn_da, bn_fl, bn_tl, cx, Dn.newObj, St.place, St.push, St.spot, St.empty, cell_d, cell_da, cell_agg, cell_ref, cell_sl, cell_fl, cell_tl, cell_map, cell_fn, cell_ifc, loadAt, faddrV, partOf, extractV, mkAgg, ofD, splice, St.setObj, fillV, hii, hlt, c4_k24, c4_k23, hia, hrl, htk, hcl]
    have h0 : 0 < σ.objs.length := (List.getElem?_eq_some_iff.1 htw.out.obj).1
    refine puts_step (q := σ.objs.length) (σ := ⟨σ.objs ++ [.cells t.cells], σ.toks⟩) (htw.fr ⟨by simp, fun q _ hq => by simp [List.getElem?_append_left hq]⟩ rfl) (by omega) (by simp) (by omega) ht hs ?_
    intro v' w' σ' htw'
    have hpl := t.put_len ht hs
    simp -implicitDefEqProofs [body_eq, w_skip, w_ops, w_seq, w_cond, w_block, w_exit, w_ret, q_then_n, q_then_e, q_then_r, q_blk_n, q_blk_e, q_blk_r, q_ops, q_cont, q_end_n, q_end_r, q_end_e, q_loop_n, q_loop_e, q_loop_r, i_nil, i_p, i_alloc, i_box, i_store, i_copy, i_clear, i_make, i_call, i_callv, i_when, t_nil, t_p, t_call, t_alloc, t_box, t_store, kept_nil, t_copy, t_clear, t_make, q_tcont, gsel, List.cons_append, List.nil_append, evalP, evalE, Opd.ev, Env.get, Env.set, Env.pick, putE, initEnv, evalBin, intBin, evalUn, evalConv, goneAll, goneOne, retV, resAll, Res.ev, tupOf, byVals, byValsN, bv_d, bv_da, bv_fl, bv_tl, bn_d, bn_da, bn_fl, bn_tl, cx, Dn.newObj, St.place, St.push, St.spot, St.empty, cell_d, cell_da, cell_agg, cell_ref, cell_sl, cell_fl, cell_tl, cell_map, cell_fn, cell_ifc, loadAt, faddrV, partOf, extractV, mkAgg, ofD, splice, St.setObj, fillV, wrap_i64 (n := (i : Int) + 1) (by omega) (by omega)]
    exact ⟨l.length - (i + 1), by omega, i + 1, v', w', _, rfl, by omega, rfl, htw', by simp; omega⟩
  obtain rfl : i = l.length := by omega
  simp -implicitDefEqProofs [body_eq, w_skip, w_ops, w_seq, w_cond, w_block, w_exit, w_ret, q_then_n, q_then_e, q_then_r, q_blk_n, q_blk_e, q_blk_r, q_ops, q_cont, q_end_n, q_end_r, q_end_e, q_loop_n, q_loop_e, q_loop_r, i_nil, i_p, i_alloc, i_box, i_store, i_copy, i_clear, i_make, i_call, i_callv, i_when, t_nil, t_p, t_call, t_alloc, t_box, t_store, kept_nil, t_copy, t_clear, t_make, q_tcont, gsel, List.cons_append, List.nil_append, evalP, evalE, Opd.ev, Env.get, Env.set, Env.pick, putE, initEnv, evalBin, intBin, evalUn, evalConv, goneAll, goneOne, retV, resAll, Res.ev, tupOf, byVals, byValsN, bv_d, bv_da, bv_fl, bv_tl, bn_d, bn_da, bn_fl, bn_tl, cx, Dn.newObj, St.place, St.push, St.spot, St.empty, cell_d, cell_da, cell_agg, cell_ref, cell_sl, cell_fl, cell_tl, cell_map, cell_fn, cell_ifc, loadAt, faddrV, partOf, extractV, mkAgg, ofD, splice, St.setObj, fillV, c4_k7]
  have h00 : 0 < σ.objs.length := (List.getElem?_eq_some_iff.1 htw.out.obj).1
  refine use_raw (s_BytesM htw.out (by omega)) fun u σ2 ⟨hm, hf, htk⟩ => ?_
  have htw2 := htw.fr hf htk
  -- the end
  have fin : ∀ (u : V) (n j : V) (σ : St), Two σ 0 v w L → wcode (Dn.Call Γ cx) cx c4_k0 [(3, .ref 0 0), (4, w), (7, u), (80, n), (81, j), (82, B false)] σ (endQ .val St.empty [.tmp 2] fun v _ => v = B true) := by
    intro u n j σ h
    have hr : 0 < σ.objs.length := (List.getElem?_eq_some_iff.1 h.out.obj).1
    simp only [c4_k0]
    simp -implicitDefEqProofs [body_eq, w_skip, w_ops, w_seq, w_cond, w_block, w_exit, w_ret, q_then_n, q_then_e, q_then_r, q_blk_n, q_blk_e, q_blk_r, q_ops, q_cont, q_end_n, q_end_r, q_end_e, q_loop_n, q_loop_e, q_loop_r, i_nil, i_p, i_alloc, i_box, i_store, i_copy, i_clear, i_make, i_call, i_callv, i_when, t_nil, t_p, t_call, t_alloc, t_box, t_store, kept_nil, t_copy, t_clear, t_make, q_tcont, gsel, List.cons_append, List.nil_append, evalP, evalE, Opd.ev, Env.get, Env.set, Env.pick, putE, initEnv, evalBin, intBin, evalUn, evalConv, goneAll, goneOne, retV, resAll, Res.ev, tupOf, byVals, byValsN, bv_d, bv_da, bv_fl, bv_tl, bn_d, bn_da, bn_fl, bn_tl, cx, Dn.newObj, St.place, St.push, St.spot, St.empty, cell_d, cell_da, cell_agg, cell_ref, cell_sl, cell_fl, cell_tl, cell_map, cell_fn, cell_ifc, loadAt, faddrV, partOf, extractV, mkAgg, ofD, splice, St.setObj, fillV]
    refine w_drw (fun _ => .rd) [] (by decide +kernel) ?_
    simp -implicitDefEqProofs [body_eq, w_skip, w_ops, w_seq, w_cond, w_block, w_exit, w_ret, q_then_n, q_then_e, q_then_r, q_blk_n, q_blk_e, q_blk_r, q_ops, q_cont, q_end_n, q_end_r, q_end_e, q_loop_n, q_loop_e, q_loop_r, i_nil, i_p, i_alloc, i_box, i_store, i_copy, i_clear, i_make, i_call, i_callv, i_when, t_nil, t_p, t_call, t_alloc, t_box, t_store, kept_nil, t_copy, t_clear, t_make, q_tcont, gsel, List.cons_append, List.nil_append, evalP, evalE, Opd.ev, Env.get, Env.set, Env.pick, putE, initEnv, evalBin, intBin, evalUn, evalConv, goneAll, goneOne, retV, resAll, Res.ev, tupOf, byVals, byValsN, bv_d, bv_da, bv_fl, bv_tl, bn_d, bn_da, bn_fl, bn_tl, cx, Dn.newObj, St.place, St.push, St.spot, St.empty, cell_d, cell_da, cell_agg, cell_ref, cell_sl, cell_fl, cell_tl, cell_map, cell_fn, cell_ifc, loadAt, faddrV, partOf, extractV, mkAgg, ofD, splice, St.setObj, fillV]
    have hro : OutAt (σ.room 0) 0 L v := ⟨room_at h.out.obj, h.out.app.toks (room_toks σ 0)⟩
    obtain ⟨d1, d2, d3, d4, d5⟩ := h.out.app.lv.dv σ
    refine use_rdN rfl (fun σ1 ha => s_Bytes ⟨(ha.1 0 hr).trans hro.obj, hro.app.toks ha.2⟩ (by omega)) ?_
    simp -implicitDefEqProofs [body_eq, w_skip, w_ops, w_seq, w_cond, w_block, w_exit, w_ret, q_then_n, q_then_e, q_then_r, q_blk_n, q_blk_e, q_blk_r, q_ops, q_cont, q_end_n, q_end_r, q_end_e, q_loop_n, q_loop_e, q_loop_r, i_nil, i_p, i_alloc, i_box, i_store, i_copy, i_clear, i_make, i_call, i_callv, i_when, t_nil, t_p, t_call, t_alloc, t_box, t_store, kept_nil, t_copy, t_clear, t_make, q_tcont, gsel, List.cons_append, List.nil_append, evalP, evalE, Opd.ev, Env.get, Env.set, Env.pick, putE, initEnv, evalBin, intBin, evalUn, evalConv, goneAll, goneOne, retV, resAll, Res.ev, tupOf, byVals, byValsN, bv_d, bv_da, bv_fl, bv_tl, bn_d, bn_da, bn_fl, bn_tl, cx, Dn.newObj, St.place, St.push, St.spot, St.empty, cell_d, cell_da, cell_agg, cell_ref, cell_sl, cell_fl, cell_tl, cell_map, cell_fn, cell_ifc, loadAt, faddrV, partOf, extractV, mkAgg, ofD, splice, St.setObj, fillV, d2.rows _, h.app.lv.rows _, rowBytes_byteRows, strBin_eq]
  rcases hm with ⟨rfl, hnl⟩ | ⟨q, rfl, hq, hcs⟩
  · simp -implicitDefEqProofs [body_eq, w_skip, w_ops, w_seq, w_cond, w_block, w_exit, w_ret, q_then_n, q_then_e, q_then_r, q_blk_n, q_blk_e, q_blk_r, q_ops, q_cont, q_end_n, q_end_r, q_end_e, q_loop_n, q_loop_e, q_loop_r, i_nil, i_p, i_alloc, i_box, i_store, i_copy, i_clear, i_make, i_call, i_callv, i_when, t_nil, t_p, t_call, t_alloc, t_box, t_store, kept_nil, t_copy, t_clear, t_make, q_tcont, gsel, List.cons_append, List.nil_append, evalP, evalE, Opd.ev, Env.get, Env.set, Env.pick, putE, initEnv, evalBin, intBin, evalUn, evalConv, goneAll, goneOne, retV, resAll, Res.ev, tupOf, byVals, byValsN, bv_d, bv_da, bv_fl, bv_tl, bn_d, bn_da, bn_fl, bn_tl, cx, Dn.newObj, St.place, St.push, St.spot, St.empty, cell_d, cell_da, cell_agg, cell_ref, cell_sl, cell_fl, cell_tl, cell_map, cell_fn, cell_ifc, loadAt, faddrV, partOf, extractV, mkAgg, ofD, splice, St.setObj, fillV, c4_k6, hnl.len σ2, c4_k5]
    refine wround ?_
    simp -implicitDefEqProofs [body_eq, w_skip, w_ops, w_seq, w_cond, w_block, w_exit, w_ret, q_then_n, q_then_e, q_then_r, q_blk_n, q_blk_e, q_blk_r, q_ops, q_cont, q_end_n, q_end_r, q_end_e, q_loop_n, q_loop_e, q_loop_r, i_nil, i_p, i_alloc, i_box, i_store, i_copy, i_clear, i_make, i_call, i_callv, i_when, t_nil, t_p, t_call, t_alloc, t_box, t_store, kept_nil, t_copy, t_clear, t_make, q_tcont, gsel, List.cons_append, List.nil_append, evalP, evalE, Opd.ev, Env.get, Env.set, Env.pick, putE, initEnv, evalBin, intBin, evalUn, evalConv, goneAll, goneOne, retV, resAll, Res.ev, tupOf, byVals, byValsN, bv_d, bv_da, bv_fl, bv_tl, bn_d, bn_da, bn_fl, bn_tl, cx, Dn.newObj, St.place, St.push, St.spot, St.empty, cell_d, cell_da, cell_agg, cell_ref, cell_sl, cell_fl, cell_tl, cell_map, cell_fn, cell_ifc, loadAt, faddrV, partOf, extractV, mkAgg, ofD, splice, St.setObj, fillV, c4_l4, c4_k3]
    exact fin _ _ _ _ htw2
  · simp -implicitDefEqProofs [body_eq, w_skip, w_ops, w_seq, w_cond, w_block, w_exit, w_ret, q_then_n, q_then_e, q_then_r, q_blk_n, q_blk_e, q_blk_r, q_ops, q_cont, q_end_n, q_end_r, q_end_e, q_loop_n, q_loop_e, q_loop_r, i_nil, i_p, i_alloc, i_box, i_store, i_copy, i_clear, i_make, i_call, i_callv, i_when, t_nil, t_p, t_call, t_alloc, t_box, t_store, kept_nil, t_copy, t_clear, t_make, q_tcont, gsel, List.cons_append, List.nil_append, evalP, evalE, Opd.ev, Env.get, Env.set, Env.pick, putE, initEnv, evalBin, intBin, evalUn, evalConv, goneAll, goneOne, retV, resAll, Res.ev, tupOf, byVals, byValsN, bv_d, bv_da, bv_fl, bv_tl, bn_d, bn_da, bn_fl, bn_tl, cx, Dn.newObj, St.place, St.push, St.spot, St.empty, cell_d, cell_da, cell_agg, cell_ref, cell_sl, cell_fl, cell_tl, cell_map, cell_fn, cell_ifc, loadAt, faddrV, partOf, extractV, mkAgg, ofD, splice, St.setObj, fillV, c4_k6, lenT, lenV, c4_k5]
    refine wloopI (InvFlip w q L.length v L) (m := L.length) ⟨0, rfl, by omega, rfl, htw2, L.map (fun b => (b.toNat : Int)), by simp, by rw [hcs]; simp⟩ ?_
    rintro m e σ3 ⟨j, rfl, hj, rfl, htw3, cs, hcl, hob⟩
    simp -implicitDefEqProofs [body_eq, w_skip, w_ops, w_seq, w_cond, w_block, w_exit, w_ret, q_then_n, q_then_e, q_then_r, q_blk_n, q_blk_e, q_blk_r, q_ops, q_cont, q_end_n, q_end_r, q_end_e, q_loop_n, q_loop_e, q_loop_r, i_nil, i_p, i_alloc, i_box, i_store, i_copy, i_clear, i_make, i_call, i_callv, i_when, t_nil, t_p, t_call, t_alloc, t_box, t_store, kept_nil, t_copy, t_clear, t_make, q_tcont, gsel, List.cons_append, List.nil_append, evalP, evalE, Opd.ev, Env.get, Env.set, Env.pick, putE, initEnv, evalBin, intBin, evalUn, evalConv, goneAll, goneOne, retV, resAll, Res.ev, tupOf, byVals, byValsN, bv_d, bv_da, bv_fl, bv_tl, bn_d, bn_da, bn_fl, bn_tl, cx, Dn.newObj, St.place, St.push, St.spot, St.empty, cell_d, cell_da, cell_agg, cell_ref, cell_sl, cell_fl, cell_tl, cell_map, cell_fn, cell_ifc, loadAt, faddrV, partOf, extractV, mkAgg, ofD, splice, St.setObj, fillV, c4_l4, c4_k3]
    by_cases hjl : j < L.length
    rotate_left
    · obtain rfl : j = L.length := by omega
      simp -implicitDefEqProofs [body_eq, w_skip, w_ops, w_seq, w_cond, w_block, w_exit, w_ret, q_then_n, q_then_e, q_then_r, q_blk_n, q_blk_e, q_blk_r, q_ops, q_cont, q_end_n, q_end_r, q_end_e, q_loop_n, q_loop_e, q_loop_r, i_nil, i_p, i_alloc, i_box, i_store, i_copy, i_clear, i_make, i_call, i_callv, i_when, t_nil, t_p, t_call, t_alloc, t_box, t_store, kept_nil, t_copy, t_clear, t_make, q_tcont, gsel, List.cons_append, List.nil_append, evalP, evalE, Opd.ev, Env.get, Env.set, Env.pick, putE, initEnv, evalBin, intBin, evalUn, evalConv, goneAll, goneOne, retV, resAll, Res.ev, tupOf, byVals, byValsN, bv_d, bv_da, bv_fl, bv_tl, bn_d, bn_da, bn_fl, bn_tl, cx, Dn.newObj, St.place, St.push, St.spot, St.empty, cell_d, cell_da, cell_agg, cell_ref, cell_sl, cell_fl, cell_tl, cell_map, cell_fn, cell_ifc, loadAt, faddrV, partOf, extractV, mkAgg, ofD, splice, St.setObj, fillV]
      exact fin _ _ _ _ htw3
    have hjj : (j : Int) < L.length := by omega
    have hcj : cs[j]? = some (cs[j]'(by omega)) := by simp [show j < cs.length by omega]
    have hql : q < σ3.objs.length := (List.getElem?_eq_some_iff.1 hob).1
    have hj1 : j + 1 ≤ cs.length := by omega
    simp -implicitDefEqProofs [body_eq, w_skip, w_ops, w_seq, w_cond, w_block, w_exit, w_ret, q_then_n, q_then_e, q_then_r, q_blk_n, q_blk_e, q_blk_r, q_ops, q_cont, q_end_n, q_end_r, q_end_e, q_loop_n, q_loop_e, q_loop_r, i_nil, i_p, i_alloc, i_box, i_store, i_copy, i_clear, i_make, i_call, i_callv, i_when, t_nil, t_p, t_call, t_alloc, t_box, t_store, kept_nil, t_copy, t_clear, t_make, q_tcont, gsel, List.cons_append, List.nil_append, evalP, evalE, Opd.ev, Env.get, Env.set, Env.pick, putE, initEnv, evalBin, intBin, evalUn, evalConv, goneAll, goneOne, retV, resAll, Res.ev, tupOf, byVals, byValsN, bv_d, bv_da, bv_fl, bv_tl, bn_d, bn_da, bn_fl, bn_tl, cx, Dn.newObj, St.place, St.push, St.spot, St.empty, cell_d, cell_da, cell_agg, cell_ref, cell_sl, cell_fl, cell_tl, cell_map, cell_fn, cell_ifc, loadAt, faddrV, partOf, extractV, mkAgg, ofD, splice, St.setObj, fillV, hjj, hjl, c4_k2, c4_k1, iaddrV, asIdx, hob, hcj, hj1, wrap_i64 (n := (j : Int) + 1) (by omega) (by omega)]
    refine ⟨L.length - (j + 1), by omega, j + 1, rfl, by omega, rfl, ⟨⟨?_, htw3.out.app.toks rfl⟩, htw3.app.toks rfl, htw3.ne⟩, cs.take j ++ bits .xor .u8 (cs[j]'(by omega)) 1 :: cs.drop (j + 1), by simp; omega, ?_⟩
    · simp only
      rw [List.getElem?_set_ne (by omega)]
      exact htw3.out.obj
    · simp only
      rw [List.getElem?_set_self hql]
      simp

end Go.Proofs.Ytjkedjjahjlmfaa.T

namespace Go.Proofs.Ytjkedjjahjlmfaa.T
open Go.Dn
set_option linter.unusedSimpArgs false
set_option linter.unusedVariables false

theorem hash_of : ∀ (n : Nat) {row : List D}, Lks (List.replicate n (.int .u8)) row → ∃ h : List UInt8, h.length = n ∧ row = hd h
  | 0, row, h => by
    simp only [List.replicate, Lks] at h
    exact ⟨[], rfl, h⟩
  | n + 1, row, h => by
    simp only [List.replicate_succ, Lks, Lk.fits] at h
    obtain ⟨d, r, rfl, ⟨m, rfl, h0, h1⟩, h2⟩ := h
    obtain ⟨h', rfl, rfl⟩ := hash_of n h2
    have e0 : (IntKind.u8.min : Int) = 0 := rfl
    have e1 : (IntKind.u8.max : Int) = 255 := rfl
    refine ⟨UInt8.ofNat m.toNat :: h', rfl, ?_⟩
    simp only [hd, List.map_cons, List.cons.injEq, and_true, UInt8.toNat_ofNat', D.int.injEq, true_and]
    omega

abbrev thingK : List Lk := [.int .i64, .int .i64, .int .u64, .str] ++ List.replicate 32 (.int .u8)

theorem thing_of {row : List D} (h : Lks thingK row) : ∃ t : TG, t.Ok ∧ row = t.row := by
  simp only [thingK, List.cons_append, List.nil_append, Lks, Lk.fits] at h
  obtain ⟨_, _, rfl, ⟨a, rfl, a0, a1⟩, _, _, rfl, ⟨b, rfl, b0, b1⟩, _, _, rfl, ⟨c, rfl, c0, c1⟩, _, _, rfl, ⟨s, rfl, _⟩, h⟩ := h
  obtain ⟨x, hx, rfl⟩ := hash_of 32 h
  exact ⟨⟨a, b, c, s, x⟩, ⟨⟨a0, a1⟩, ⟨b0, b1⟩, ⟨c0, c1⟩, hx⟩, rfl⟩

theorem things_of : ∀ {rows : List (List D)}, (∀ row ∈ rows, Lks thingK row) → ∃ l : List TG, (∀ t ∈ l, t.Ok) ∧ rows = thingRows l
  | [], _ => ⟨[], by simp, rfl⟩
  | r :: rows, h => by
    obtain ⟨l, hl, rfl⟩ := things_of (rows := rows) fun row hr => h row (by simp [hr])
    obtain ⟨t, ht, rfl⟩ := thing_of (h r (by simp))
    exact ⟨t :: l, by simpa using ⟨ht, hl⟩, rfl⟩

theorem things_fit {x : D} (hx : (Lk.list thingK).fits x) : ∃ l : List TG, (∀ t ∈ l, t.Ok) ∧ LV (.d x) (thingRows l) := by
  simp only [Lk.fits] at hx
  rcases hx with rfl | ⟨rows, rfl, _, h⟩
  · exact ⟨[], by simp, .nil⟩
  · obtain ⟨l, hl, rfl⟩ := things_of h
    exact ⟨l, hl, .list _⟩

theorem law4 {x : D} (hx : (Lk.list thingK).fits x) : Dn.Call Γ cx .val 4 [.d x] St.empty fun r _ => r = B true := by
  obtain ⟨l, hl, h⟩ := things_fit hx
  exact s4 h hl

end Go.Proofs.Ytjkedjjahjlmfaa.T

namespace Go.Proofs.Ytjkedjjahjlmfaa.T
open Go.Dn
set_option linter.unusedSimpArgs false
set_option linter.unusedVariables false

/-- slices.Clone of what may be written, into what may not. -/
theorem s_CloneS {σ : St} {q : Nat} {l : List UInt8} (hq : σ.objs[q]? = some (.cells (l.map fun b => Y b.toNat))) (hl : l.length ≤ 1099511627776) :
    Dn.Call Γ cx .raw 40 [.sl q 0 l.length 1] σ fun w s => App s 1 w (byteRows l) ∧ s.objs = σ.objs := by
  refine Dn.Call.body (fc := c40) rfl ?_
  simp -implicitDefEqProofs [body_eq, w_skip, w_ops, w_seq, w_cond, w_block, w_exit, w_ret, q_then_n, q_then_e, q_then_r, q_blk_n, q_blk_e, q_blk_r, q_ops, q_cont, q_end_n, q_end_r, q_end_e, q_loop_n, q_loop_e, q_loop_r, i_nil, i_p, i_alloc, i_box, i_store, i_copy, i_clear, i_make, i_call, i_callv, i_when, t_nil, t_p, t_call, t_alloc, t_box, t_store, kept_nil, t_copy, t_clear, t_make, q_tcont, gsel, List.cons_append, List.nil_append, evalP, evalE, Opd.ev, Env.get, Env.set, Env.pick, putE, initEnv, evalBin, intBin, evalUn, evalConv, goneAll, goneOne, retV, resAll, Res.ev, tupOf, byVals, byValsN, bv_d, bv_da, bv_fl, bv_tl, bn_d, bn_da, bn_fl, bn_tl, cx, Dn.newObj, St.place, St.push, St.spot, St.empty, cell_d, cell_da, cell_agg, cell_ref, cell_sl, cell_fl, cell_tl, cell_map, cell_fn, cell_ifc, loadAt, faddrV, partOf, extractV, mkAgg, ofD, splice, St.setObj, fillV, c40, c40_k2, c40_k1, c40_k0, eqV, V.isNil, Opd.isC, repl, rowsOf]
  obtain ⟨v1, σ1, hap, happ, ho, ht, hdv⟩ := (App.fl (σ := σ) (sz := 1) []).push (bytes := 1) (by decide) (by simp) (ys := byteRows l) (byteRows_fit _) (by simp [byteRows_len]; omega) (by simp [byteRows_len]; omega)
  rw [List.nil_append] at happ
  have hr : V.rows σ (.sl q 0 l.length 1) = some (byteRows l) := by
    simp only [V.rows, hq]
    have e : (l.map fun b => Y b.toNat) = (hd l).map V.d := by simp [hd]
    have : (List.take (l.length * 1) (List.drop 0 ((hd l).map V.d))) = (hd l).map V.d := List.take_of_length_le (by simp [hd_len])
    rw [e, this, ofD_hd]
    simp only
    rw [hd_rows]
  refine i_app_f (v := v1) (s := σ1) ?_ ?_
  · simp -implicitDefEqProofs [body_eq, w_skip, w_ops, w_seq, w_cond, w_block, w_exit, w_ret, q_then_n, q_then_e, q_then_r, q_blk_n, q_blk_e, q_blk_r, q_ops, q_cont, q_end_n, q_end_r, q_end_e, q_loop_n, q_loop_e, q_loop_r, i_nil, i_p, i_alloc, i_box, i_store, i_copy, i_clear, i_make, i_call, i_callv, i_when, t_nil, t_p, t_call, t_alloc, t_box, t_store, kept_nil, t_copy, t_clear, t_make, q_tcont, gsel, List.cons_append, List.nil_append, evalP, evalE, Opd.ev, Env.get, Env.set, Env.pick, putE, initEnv, evalBin, intBin, evalUn, evalConv, goneAll, goneOne, retV, resAll, Res.ev, tupOf, byVals, byValsN, bv_d, bv_da, bv_fl, bv_tl, bn_d, bn_da, bn_fl, bn_tl, cx, Dn.newObj, St.place, St.push, St.spot, St.empty, cell_d, cell_da, cell_agg, cell_ref, cell_sl, cell_fl, cell_tl, cell_map, cell_fn, cell_ifc, loadAt, faddrV, partOf, extractV, mkAgg, ofD, splice, St.setObj, fillV, hr]
    exact hap none
  · simp -implicitDefEqProofs [body_eq, w_skip, w_ops, w_seq, w_cond, w_block, w_exit, w_ret, q_then_n, q_then_e, q_then_r, q_blk_n, q_blk_e, q_blk_r, q_ops, q_cont, q_end_n, q_end_r, q_end_e, q_loop_n, q_loop_e, q_loop_r, i_nil, i_p, i_alloc, i_box, i_store, i_copy, i_clear, i_make, i_call, i_callv, i_when, t_nil, t_p, t_call, t_alloc, t_box, t_store, kept_nil, t_copy, t_clear, t_make, q_tcont, gsel, List.cons_append, List.nil_append, evalP, evalE, Opd.ev, Env.get, Env.set, Env.pick, putE, initEnv, evalBin, intBin, evalUn, evalConv, goneAll, goneOne, retV, resAll, Res.ev, tupOf, byVals, byValsN, bv_d, bv_da, bv_fl, bv_tl, bn_d, bn_da, bn_fl, bn_tl, cx, Dn.newObj, St.place, St.push, St.spot, St.empty, cell_d, cell_da, cell_agg, cell_ref, cell_sl, cell_fl, cell_tl, cell_map, cell_fn, cell_ifc, loadAt, faddrV, partOf, extractV, mkAgg, ofD, splice, St.setObj, fillV]
    exact ⟨happ, ho⟩

/-- A new reader; tokens may be new. -/
structure New2 (σ : St) (b : List UInt8) (w : V) (σ' : St) : Prop where
  ref : ∃ r v, w = .ref r 0 ∧ σ.objs.length ≤ r ∧ InAt σ' r (b, false) v
  fr : Fr [] σ σ'

theorem s_ReadM {σ0 σ : St} {v : V} {b : List UInt8} (h : MutB σ0 σ v b) (hl : b.length ≤ 1099511627776) : Dn.Call Γ cx .raw 22 [v] σ fun w σ' => New2 σ b w σ' := by
  rcases h with ⟨rfl, hn⟩ | ⟨q, rfl, hq, hob⟩
  · exact Call.mono (fun w s hw => ⟨hw.ref, hw.fr⟩) (s_Read (b := []) σ hn hl)
  · refine Dn.Call.body (fc := c22) rfl ?_
    simp -implicitDefEqProofs [body_eq, w_skip, w_ops, w_seq, w_cond, w_block, w_exit, w_ret, q_then_n, q_then_e, q_then_r, q_blk_n, q_blk_e, q_blk_r, q_ops, q_cont, q_end_n, q_end_r, q_end_e, q_loop_n, q_loop_e, q_loop_r, i_nil, i_p, i_alloc, i_box, i_store, i_copy, i_clear, i_make, i_call, i_callv, i_when, t_nil, t_p, t_call, t_alloc, t_box, t_store, kept_nil, t_copy, t_clear, t_make, q_tcont, gsel, List.cons_append, List.nil_append, evalP, evalE, Opd.ev, Env.get, Env.set, Env.pick, putE, initEnv, evalBin, intBin, evalUn, evalConv, goneAll, goneOne, retV, resAll, Res.ev, tupOf, byVals, byValsN, bv_d, bv_da, bv_fl, bv_tl, bn_d, bn_da, bn_fl, bn_tl, cx, Dn.newObj, St.place, St.push, St.spot, St.empty, cell_d, cell_da, cell_agg, cell_ref, cell_sl, cell_fl, cell_tl, cell_map, cell_fn, cell_ifc, loadAt, faddrV, partOf, extractV, mkAgg, ofD, splice, St.setObj, fillV, c22, c22_k0]
    refine use_raw (s_CloneS hob hl) fun w s ⟨happ, ho⟩ => ?_
    have key : ∀ w', w' = w → New2 σ b (.ref s.objs.length 0) ⟨s.objs ++ [.cells [w', B false]], s.toks⟩ := fun w' e => by
      subst e
      refine ⟨⟨_, w', rfl, ?_, by simp, ?_, happ.tls⟩, ⟨?_, fun q _ hq => ?_⟩⟩
      · rw [ho]; exact Nat.le_refl _
      · exact happ.lv
      · simp [ho]
      · simp only
        rw [List.getElem?_append_left (by rw [ho]; exact hq), ho]
    generalize hbr : byteRows b = rows at *
    cases happ with
    | nil => simp -implicitDefEqProofs [body_eq, w_skip, w_ops, w_seq, w_cond, w_block, w_exit, w_ret, q_then_n, q_then_e, q_then_r, q_blk_n, q_blk_e, q_blk_r, q_ops, q_cont, q_end_n, q_end_r, q_end_e, q_loop_n, q_loop_e, q_loop_r, i_nil, i_p, i_alloc, i_box, i_store, i_copy, i_clear, i_make, i_call, i_callv, i_when, t_nil, t_p, t_call, t_alloc, t_box, t_store, kept_nil, t_copy, t_clear, t_make, q_tcont, gsel, List.cons_append, List.nil_append, evalP, evalE, Opd.ev, Env.get, Env.set, Env.pick, putE, initEnv, evalBin, intBin, evalUn, evalConv, goneAll, goneOne, retV, resAll, Res.ev, tupOf, byVals, byValsN, bv_d, bv_da, bv_fl, bv_tl, bn_d, bn_da, bn_fl, bn_tl, cx, Dn.newObj, St.place, St.push, St.spot, St.empty, cell_d, cell_da, cell_agg, cell_ref, cell_sl, cell_fl, cell_tl, cell_map, cell_fn, cell_ifc, loadAt, faddrV, partOf, extractV, mkAgg, ofD, splice, St.setObj, fillV, ofD]; exact key _ rfl
    | fl => simp -implicitDefEqProofs [body_eq, w_skip, w_ops, w_seq, w_cond, w_block, w_exit, w_ret, q_then_n, q_then_e, q_then_r, q_blk_n, q_blk_e, q_blk_r, q_ops, q_cont, q_end_n, q_end_r, q_end_e, q_loop_n, q_loop_e, q_loop_r, i_nil, i_p, i_alloc, i_box, i_store, i_copy, i_clear, i_make, i_call, i_callv, i_when, t_nil, t_p, t_call, t_alloc, t_box, t_store, kept_nil, t_copy, t_clear, t_make, q_tcont, gsel, List.cons_append, List.nil_append, evalP, evalE, Opd.ev, Env.get, Env.set, Env.pick, putE, initEnv, evalBin, intBin, evalUn, evalConv, goneAll, goneOne, retV, resAll, Res.ev, tupOf, byVals, byValsN, bv_d, bv_da, bv_fl, bv_tl, bn_d, bn_da, bn_fl, bn_tl, cx, Dn.newObj, St.place, St.push, St.spot, St.empty, cell_d, cell_da, cell_agg, cell_ref, cell_sl, cell_fl, cell_tl, cell_map, cell_fn, cell_ifc, loadAt, faddrV, partOf, extractV, mkAgg, ofD, splice, St.setObj, fillV, ofD, V.cells]; exact key _ rfl
    | tl => simp -implicitDefEqProofs [body_eq, w_skip, w_ops, w_seq, w_cond, w_block, w_exit, w_ret, q_then_n, q_then_e, q_then_r, q_blk_n, q_blk_e, q_blk_r, q_ops, q_cont, q_end_n, q_end_r, q_end_e, q_loop_n, q_loop_e, q_loop_r, i_nil, i_p, i_alloc, i_box, i_store, i_copy, i_clear, i_make, i_call, i_callv, i_when, t_nil, t_p, t_call, t_alloc, t_box, t_store, kept_nil, t_copy, t_clear, t_make, q_tcont, gsel, List.cons_append, List.nil_append, evalP, evalE, Opd.ev, Env.get, Env.set, Env.pick, putE, initEnv, evalBin, intBin, evalUn, evalConv, goneAll, goneOne, retV, resAll, Res.ev, tupOf, byVals, byValsN, bv_d, bv_da, bv_fl, bv_tl, bn_d, bn_da, bn_fl, bn_tl, cx, Dn.newObj, St.place, St.push, St.spot, St.empty, cell_d, cell_da, cell_agg, cell_ref, cell_sl, cell_fl, cell_tl, cell_map, cell_fn, cell_ifc, loadAt, faddrV, partOf, extractV, mkAgg, ofD, splice, St.setObj, fillV, ofD, V.cells]; exact key _ rfl

def InvFlip2 (y : D) (r p q len : Nat) (s : Rd) (m : Nat) (e : Env) (σ : St) : Prop := ∃ (i : Nat), e = [(1, .d y), (5, .sl q 0 len 1), (6, .ref r 0), (7, .ref p 0), (38, I len), (39, I i)] ++ tail13 .any .any .any .any .any .any .any .any .any .any .any .any .any ∧ i ≤ len ∧ m = len - i ∧ Both σ r p s ∧ q ≠ r ∧ q ≠ p ∧ ∃ cs : List Int, cs.length = len ∧ σ.objs[q]? = some (.cells (cs.map Y))

def InvReads (y : D) (l : List TG) (r p : Nat) (m : Nat) (e : Env) (σ : St) : Prop := ∃ (i : Nat) (s : Rd) (x1 x2 x3 x4 x5 x6 x7 x8 x9 x10 x11 x12 x13 : V), e = [(6, .ref r 0), (7, .ref p 0), (49, .d y), (50, I l.length), (51, I i)] ++ tail13 x1 x2 x3 x4 x5 x6 x7 x8 x9 x10 x11 x12 x13 ∧ i ≤ l.length ∧ m = l.length - i ∧ Both σ r p s ∧ s.1.length ≤ 3000

theorem got_len (t : TG) (s : Rd) : (t.got s).1.length ≤ s.1.length := by
  unfold TG.got
  have hn : ∀ (s : Rd) (n : Int), (nextS s n).2.1.length ≤ s.1.length := fun s n => by
    unfold nextS
    split
    · simp [wrongS]
    · simp
  split
  · exact numS_len _ _
  split
  · exact countS_len _ _
  split
  · exact Nat.le_trans (hn _ _) (countS_len _ _)
  · exact hn _ _

/-- The rounds and the end. -/
theorem reads_loop {y : D} {l : List TG} (hy : LV (.d y) (thingRows l)) (hok : ∀ t ∈ l, t.Ok) (hl41 : l.length ≤ 41) {σ : St} {r p : Nat} {s : Rd} (h : Both σ r p s) (hs : s.1.length ≤ 3000) (e1 e2 e3 e4 : V) :
    wcode (Dn.Call Γ cx) cx c5_k26 ([(1, .d y), (5, e1), (6, .ref r 0), (7, .ref p 0), (38, e2), (39, e3), (40, e4)] ++ tail13 .any .any .any .any .any .any .any .any .any .any .any .any .any) σ (endQ .val St.empty [.tmp 4] fun v _ => v = B true) := by
  have hlen : (thingRows l).length = l.length := by simp [thingRows]
  simp -implicitDefEqProofs [body_eq, w_skip, w_ops, w_seq, w_cond, w_block, w_exit, w_ret, q_then_n, q_then_e, q_then_r, q_blk_n, q_blk_e, q_blk_r, q_ops, q_cont, q_end_n, q_end_r, q_end_e, q_loop_n, q_loop_e, q_loop_r, i_nil, i_p, i_alloc, i_box, i_store, i_copy, i_clear, i_make, i_call, i_callv, i_when, t_nil, t_p, t_call, t_alloc, t_box, t_store, kept_nil, t_copy, t_clear, t_make, q_tcont, gsel, List.cons_append, List.nil_append, evalP, evalE, Opd.ev, Env.get, Env.set, Env.pick, putE, initEnv, evalBin, intBin, evalUn, evalConv, goneAll, goneOne, retV, resAll, Res.ev, tupOf, byVals, byValsN, bv_d, bv_da, bv_fl, bv_tl, bn_d, bn_da, bn_fl, bn_tl, cx, Dn.newObj, St.place, St.push, St.spot, St.empty, cell_d, cell_da, cell_agg, cell_ref, cell_sl, cell_fl, cell_tl, cell_map, cell_fn, cell_ifc, loadAt, faddrV, partOf, extractV, mkAgg, ofD, splice, St.setObj, fillV, c5_k26, hy.len σ, hlen, c5_k25]
  refine wloopI (InvReads y l r p) (m := l.length) ⟨0, s, _, _, _, _, _, _, _, _, _, _, _, _, _, rfl, by omega, rfl, h, hs⟩ ?_
  rintro m e σ ⟨i, s, x1, x2, x3, x4, x5, x6, x7, x8, x9, x10, x11, x12, x13, rfl, hi, rfl, hB, hs⟩
  simp -implicitDefEqProofs [body_eq, w_skip, w_ops, w_seq, w_cond, w_block, w_exit, w_ret, q_then_n, q_then_e, q_then_r, q_blk_n, q_blk_e, q_blk_r, q_ops, q_cont, q_end_n, q_end_r, q_end_e, q_loop_n, q_loop_e, q_loop_r, i_nil, i_p, i_alloc, i_box, i_store, i_copy, i_clear, i_make, i_call, i_callv, i_when, t_nil, t_p, t_call, t_alloc, t_box, t_store, kept_nil, t_copy, t_clear, t_make, q_tcont, gsel, List.cons_append, List.nil_append, evalP, evalE, Opd.ev, Env.get, Env.set, Env.pick, putE, initEnv, evalBin, intBin, evalUn, evalConv, goneAll, goneOne, retV, resAll, Res.ev, tupOf, byVals, byValsN, bv_d, bv_da, bv_fl, bv_tl, bn_d, bn_da, bn_fl, bn_tl, cx, Dn.newObj, St.place, St.push, St.spot, St.empty, cell_d, cell_da, cell_agg, cell_ref, cell_sl, cell_fl, cell_tl, cell_map, cell_fn, cell_ifc, loadAt, faddrV, partOf, extractV, mkAgg, ofD, splice, St.setObj, fillV, c5_l24, c5_k23]
  obtain ⟨⟨v, hv⟩, ⟨b, hb, hlv⟩, hn⟩ := id hB
  have hrl : r < σ.objs.length := (List.getElem?_eq_some_iff.1 hv.obj).1
  have hpl : p < σ.objs.length := (List.getElem?_eq_some_iff.1 hb).1
  by_cases hlt : i < l.length
  · have hbi : l[i]? = some (l[i]) := by simp [hlt]
    have ht := hok _ (List.getElem_mem hlt)
    generalize hti : l[i] = t at *
    have hia := hy.iaddr σ (k := .i64) (sz := 36) (thingRows_at hbi) (TG.row_len ht)
    have hii : (i : Int) < l.length := by omega
    have hrl' := TG.row_len ht
    have htk : List.take 36 (List.map V.d t.row) = t.cells := List.take_of_length_le (by simp [hrl'])
    have hcl := TG.cells_len ht
    simp -implicitDefEqProofs [body_eq, w_skip, w_ops, w_seq, w_cond, w_block, w_exit, w_ret, q_then_n, q_then_e, q_then_r, q_blk_n, q_blk_e, q_blk_r, q_ops, q_cont, q_end_n, q_end_r, q_end_e, q_loop_n, q_loop_e, q_loop_r, i_nil, i_p, i_alloc, i_box, i_store, i_copy, i_clear, i_make, i_call, i_callv, i_when, t_nil, t_p, t_call, t_alloc, t_box, t_store, kept_nil, t_copy, t_clear, t_make, q_tcont, gsel, List.cons_append, List.nil_append, evalP, evalE, Opd.ev, Env.get, Env.set, Env.pick, putE, initEnv, evalBin, intBin, evalUn, evalConv, goneAll, goneOne, retV, resAll, Res.ev, tupOf, byVals, byValsN, bv_d, bv_da, bv_fl, bv_tl, bn_d, bn_da, bn_fl, bn_tl, cx, Dn.newObj, St.place, St.push, St.spot, St.empty, cell_d, cell_da, cell_agg, cell_ref, cell_sl, cell_fl, cell_tl, cell_map, cell_fn, cell_ifc, loadAt, faddrV, partOf, extractV, mkAgg, ofD, splice, St.setObj, fillV, hii, hlt, c5_k22, c5_k21, hia, hrl', htk, hcl]
    refine reads_step (q := σ.objs.length) (σ := ⟨σ.objs ++ [.cells t.cells], σ.toks⟩) (s := s) (hB.fr ⟨by simp, fun q _ hq => by simp [List.getElem?_append_left hq]⟩) (by omega) (by simp) (by omega) (by omega) ht ?_
    intro σ' hB' y1 y2 y3 y4 y5 y6 y7 y8 y9 y10 y11 y12
    simp -implicitDefEqProofs [body_eq, w_skip, w_ops, w_seq, w_cond, w_block, w_exit, w_ret, q_then_n, q_then_e, q_then_r, q_blk_n, q_blk_e, q_blk_r, q_ops, q_cont, q_end_n, q_end_r, q_end_e, q_loop_n, q_loop_e, q_loop_r, i_nil, i_p, i_alloc, i_box, i_store, i_copy, i_clear, i_make, i_call, i_callv, i_when, t_nil, t_p, t_call, t_alloc, t_box, t_store, kept_nil, t_copy, t_clear, t_make, q_tcont, gsel, List.cons_append, List.nil_append, evalP, evalE, Opd.ev, Env.get, Env.set, Env.pick, putE, initEnv, evalBin, intBin, evalUn, evalConv, goneAll, goneOne, retV, resAll, Res.ev, tupOf, byVals, byValsN, bv_d, bv_da, bv_fl, bv_tl, bn_d, bn_da, bn_fl, bn_tl, cx, Dn.newObj, St.place, St.push, St.spot, St.empty, cell_d, cell_da, cell_agg, cell_ref, cell_sl, cell_fl, cell_tl, cell_map, cell_fn, cell_ifc, loadAt, faddrV, partOf, extractV, mkAgg, ofD, splice, St.setObj, fillV, wrap_i64 (n := (i : Int) + 1) (by omega) (by omega)]
    exact ⟨l.length - (i + 1), by omega, i + 1, _, _, _, _, _, _, _, _, _, _, _, _, _, _, rfl, by omega, rfl, hB', Nat.le_trans (got_len t s) hs⟩
  obtain rfl : i = l.length := by omega
  simp -implicitDefEqProofs [body_eq, w_skip, w_ops, w_seq, w_cond, w_block, w_exit, w_ret, q_then_n, q_then_e, q_then_r, q_blk_n, q_blk_e, q_blk_r, q_ops, q_cont, q_end_n, q_end_r, q_end_e, q_loop_n, q_loop_e, q_loop_r, i_nil, i_p, i_alloc, i_box, i_store, i_copy, i_clear, i_make, i_call, i_callv, i_when, t_nil, t_p, t_call, t_alloc, t_box, t_store, kept_nil, t_copy, t_clear, t_make, q_tcont, gsel, List.cons_append, List.nil_append, evalP, evalE, Opd.ev, Env.get, Env.set, Env.pick, putE, initEnv, evalBin, intBin, evalUn, evalConv, goneAll, goneOne, retV, resAll, Res.ev, tupOf, byVals, byValsN, bv_d, bv_da, bv_fl, bv_tl, bn_d, bn_da, bn_fl, bn_tl, cx, Dn.newObj, St.place, St.push, St.spot, St.empty, cell_d, cell_da, cell_agg, cell_ref, cell_sl, cell_fl, cell_tl, cell_map, cell_fn, cell_ifc, loadAt, faddrV, partOf, extractV, mkAgg, ofD, splice, St.setObj, fillV, c5_k1]
  refine use_raw (s_End hv) fun w σ2 ⟨hw, hσ⟩ => ?_
  subst hw hσ
  unfold endV
  by_cases hc : (s.2 || decide (0 < s.1.length)) = true
  · rw [if_pos hc]
    simp -implicitDefEqProofs [body_eq, w_skip, w_ops, w_seq, w_cond, w_block, w_exit, w_ret, q_then_n, q_then_e, q_then_r, q_blk_n, q_blk_e, q_blk_r, q_ops, q_cont, q_end_n, q_end_r, q_end_e, q_loop_n, q_loop_e, q_loop_r, i_nil, i_p, i_alloc, i_box, i_store, i_copy, i_clear, i_make, i_call, i_callv, i_when, t_nil, t_p, t_call, t_alloc, t_box, t_store, kept_nil, t_copy, t_clear, t_make, q_tcont, gsel, List.cons_append, List.nil_append, evalP, evalE, Opd.ev, Env.get, Env.set, Env.pick, putE, initEnv, evalBin, intBin, evalUn, evalConv, goneAll, goneOne, retV, resAll, Res.ev, tupOf, byVals, byValsN, bv_d, bv_da, bv_fl, bv_tl, bn_d, bn_da, bn_fl, bn_tl, cx, Dn.newObj, St.place, St.push, St.spot, St.empty, cell_d, cell_da, cell_agg, cell_ref, cell_sl, cell_fl, cell_tl, cell_map, cell_fn, cell_ifc, loadAt, faddrV, partOf, extractV, mkAgg, ofD, splice, St.setObj, fillV, c5_k0, eqV, V.isNil, Opd.isC]
    refine use_fn rfl (s_Is 2 2 (by decide)) rfl ?_
    simp -implicitDefEqProofs [body_eq, w_skip, w_ops, w_seq, w_cond, w_block, w_exit, w_ret, q_then_n, q_then_e, q_then_r, q_blk_n, q_blk_e, q_blk_r, q_ops, q_cont, q_end_n, q_end_r, q_end_e, q_loop_n, q_loop_e, q_loop_r, i_nil, i_p, i_alloc, i_box, i_store, i_copy, i_clear, i_make, i_call, i_callv, i_when, t_nil, t_p, t_call, t_alloc, t_box, t_store, kept_nil, t_copy, t_clear, t_make, q_tcont, gsel, List.cons_append, List.nil_append, evalP, evalE, Opd.ev, Env.get, Env.set, Env.pick, putE, initEnv, evalBin, intBin, evalUn, evalConv, goneAll, goneOne, retV, resAll, Res.ev, tupOf, byVals, byValsN, bv_d, bv_da, bv_fl, bv_tl, bn_d, bn_da, bn_fl, bn_tl, cx, Dn.newObj, St.place, St.push, St.spot, St.empty, cell_d, cell_da, cell_agg, cell_ref, cell_sl, cell_fl, cell_tl, cell_map, cell_fn, cell_ifc, loadAt, faddrV, partOf, extractV, mkAgg, ofD, splice, St.setObj, fillV]
  · rw [if_neg hc]
    simp -implicitDefEqProofs [body_eq, w_skip, w_ops, w_seq, w_cond, w_block, w_exit, w_ret, q_then_n, q_then_e, q_then_r, q_blk_n, q_blk_e, q_blk_r, q_ops, q_cont, q_end_n, q_end_r, q_end_e, q_loop_n, q_loop_e, q_loop_r, i_nil, i_p, i_alloc, i_box, i_store, i_copy, i_clear, i_make, i_call, i_callv, i_when, t_nil, t_p, t_call, t_alloc, t_box, t_store, kept_nil, t_copy, t_clear, t_make, q_tcont, gsel, List.cons_append, List.nil_append, evalP, evalE, Opd.ev, Env.get, Env.set, Env.pick, putE, initEnv, evalBin, intBin, evalUn, evalConv, goneAll, goneOne, retV, resAll, Res.ev, tupOf, byVals, byValsN, bv_d, bv_da, bv_fl, bv_tl, bn_d, bn_da, bn_fl, bn_tl, cx, Dn.newObj, St.place, St.push, St.spot, St.empty, cell_d, cell_da, cell_agg, cell_ref, cell_sl, cell_fl, cell_tl, cell_map, cell_fn, cell_ifc, loadAt, faddrV, partOf, extractV, mkAgg, ofD, splice, St.setObj, fillV, c5_k0, eqV, V.isNil, Opd.isC]

theorem bytes_fit {x : D} (hx : (Lk.list [.int .u8]).fits x) : ∃ b : List UInt8, LV (.d x) (byteRows b) := by
  simp only [Lk.fits] at hx
  rcases hx with rfl | ⟨rows, rfl, _, h⟩
  · exact ⟨[], .nil⟩
  · obtain ⟨l, rfl⟩ := bytes_of_fits h
    exact ⟨l, .list _⟩

theorem s5 {x y : D} {b : List UInt8} {l : List TG} (hx : LV (.d x) (byteRows b)) (hy : LV (.d y) (thingRows l)) (hok : ∀ t ∈ l, t.Ok) : Dn.Call Γ cx .val 5 [.d x, .d y] St.empty fun v _ => v = B true := by
  refine Dn.Call.body (fc := c5) rfl ?_
  simp -implicitDefEqProofs [body_eq, w_skip, w_ops, w_seq, w_cond, w_block, w_exit, w_ret, q_then_n, q_then_e, q_then_r, q_blk_n, q_blk_e, q_blk_r, q_ops, q_cont, q_end_n, q_end_r, q_end_e, q_loop_n, q_loop_e, q_loop_r, i_nil, i_p, i_alloc, i_box, i_store, i_copy, i_clear, i_make, i_call, i_callv, i_when, t_nil, t_p, t_call, t_alloc, t_box, t_store, kept_nil, t_copy, t_clear, t_make, q_tcont, gsel, List.cons_append, List.nil_append, evalP, evalE, Opd.ev, Env.get, Env.set, Env.pick, putE, initEnv, evalBin, intBin, evalUn, evalConv, goneAll, goneOne, retV, resAll, Res.ev, tupOf, byVals, byValsN, bv_d, bv_da, bv_fl, bv_tl, bn_d, bn_da, bn_fl, bn_tl, cx, Dn.newObj, St.place, St.push, St.spot, St.empty, cell_d, cell_da, cell_agg, cell_ref, cell_sl, cell_fl, cell_tl, cell_map, cell_fn, cell_ifc, loadAt, faddrV, partOf, extractV, mkAgg, ofD, splice, St.setObj, fillV, c5, c5_k38]
  refine use_fn rfl s_alive rfl ?_
  simp -implicitDefEqProofs [body_eq, w_skip, w_ops, w_seq, w_cond, w_block, w_exit, w_ret, q_then_n, q_then_e, q_then_r, q_blk_n, q_blk_e, q_blk_r, q_ops, q_cont, q_end_n, q_end_r, q_end_e, q_loop_n, q_loop_e, q_loop_r, i_nil, i_p, i_alloc, i_box, i_store, i_copy, i_clear, i_make, i_call, i_callv, i_when, t_nil, t_p, t_call, t_alloc, t_box, t_store, kept_nil, t_copy, t_clear, t_make, q_tcont, gsel, List.cons_append, List.nil_append, evalP, evalE, Opd.ev, Env.get, Env.set, Env.pick, putE, initEnv, evalBin, intBin, evalUn, evalConv, goneAll, goneOne, retV, resAll, Res.ev, tupOf, byVals, byValsN, bv_d, bv_da, bv_fl, bv_tl, bn_d, bn_da, bn_fl, bn_tl, cx, Dn.newObj, St.place, St.push, St.spot, St.empty, cell_d, cell_da, cell_agg, cell_ref, cell_sl, cell_fl, cell_tl, cell_map, cell_fn, cell_ifc, loadAt, faddrV, partOf, extractV, mkAgg, ofD, splice, St.setObj, fillV, c5_k37, c5_k36]
  refine use_val (ds := [.d y]) rfl (s_long l hy hok) ?_
  rintro v s ⟨bb, rfl, hb⟩
  refine ⟨rfl, fun _ => rfl, ?_⟩
  cases bb with
  | true => simp -implicitDefEqProofs [body_eq, w_skip, w_ops, w_seq, w_cond, w_block, w_exit, w_ret, q_then_n, q_then_e, q_then_r, q_blk_n, q_blk_e, q_blk_r, q_ops, q_cont, q_end_n, q_end_r, q_end_e, q_loop_n, q_loop_e, q_loop_r, i_nil, i_p, i_alloc, i_box, i_store, i_copy, i_clear, i_make, i_call, i_callv, i_when, t_nil, t_p, t_call, t_alloc, t_box, t_store, kept_nil, t_copy, t_clear, t_make, q_tcont, gsel, List.cons_append, List.nil_append, evalP, evalE, Opd.ev, Env.get, Env.set, Env.pick, putE, initEnv, evalBin, intBin, evalUn, evalConv, goneAll, goneOne, retV, resAll, Res.ev, tupOf, byVals, byValsN, bv_d, bv_da, bv_fl, bv_tl, bn_d, bn_da, bn_fl, bn_tl, cx, Dn.newObj, St.place, St.push, St.spot, St.empty, cell_d, cell_da, cell_agg, cell_ref, cell_sl, cell_fl, cell_tl, cell_map, cell_fn, cell_ifc, loadAt, faddrV, partOf, extractV, mkAgg, ofD, splice, St.setObj, fillV, c5_k35]
  | false =>
  obtain ⟨hl41, hts⟩ := hb rfl
  have hxl : lenT St.empty .slice (.d x) = some b.length := by rw [hx.len, byteRows_len]
  simp only [St.empty] at hxl
  by_cases hbl : (3000 : Int) < b.length
  · simp -implicitDefEqProofs [body_eq, w_skip, w_ops, w_seq, w_cond, w_block, w_exit, w_ret, q_then_n, q_then_e, q_then_r, q_blk_n, q_blk_e, q_blk_r, q_ops, q_cont, q_end_n, q_end_r, q_end_e, q_loop_n, q_loop_e, q_loop_r, i_nil, i_p, i_alloc, i_box, i_store, i_copy, i_clear, i_make, i_call, i_callv, i_when, t_nil, t_p, t_call, t_alloc, t_box, t_store, kept_nil, t_copy, t_clear, t_make, q_tcont, gsel, List.cons_append, List.nil_append, evalP, evalE, Opd.ev, Env.get, Env.set, Env.pick, putE, initEnv, evalBin, intBin, evalUn, evalConv, goneAll, goneOne, retV, resAll, Res.ev, tupOf, byVals, byValsN, bv_d, bv_da, bv_fl, bv_tl, bn_d, bn_da, bn_fl, bn_tl, cx, Dn.newObj, St.place, St.push, St.spot, St.empty, cell_d, cell_da, cell_agg, cell_ref, cell_sl, cell_fl, cell_tl, cell_map, cell_fn, cell_ifc, loadAt, faddrV, partOf, extractV, mkAgg, ofD, splice, St.setObj, fillV, hxl, hbl, c5_k35]
  have hbl' : b.length ≤ 3000 := by omega
  simp -implicitDefEqProofs [body_eq, w_skip, w_ops, w_seq, w_cond, w_block, w_exit, w_ret, q_then_n, q_then_e, q_then_r, q_blk_n, q_blk_e, q_blk_r, q_ops, q_cont, q_end_n, q_end_r, q_end_e, q_loop_n, q_loop_e, q_loop_r, i_nil, i_p, i_alloc, i_box, i_store, i_copy, i_clear, i_make, i_call, i_callv, i_when, t_nil, t_p, t_call, t_alloc, t_box, t_store, kept_nil, t_copy, t_clear, t_make, q_tcont, gsel, List.cons_append, List.nil_append, evalP, evalE, Opd.ev, Env.get, Env.set, Env.pick, putE, initEnv, evalBin, intBin, evalUn, evalConv, goneAll, goneOne, retV, resAll, Res.ev, tupOf, byVals, byValsN, bv_d, bv_da, bv_fl, bv_tl, bn_d, bn_da, bn_fl, bn_tl, cx, Dn.newObj, St.place, St.push, St.spot, St.empty, cell_d, cell_da, cell_agg, cell_ref, cell_sl, cell_fl, cell_tl, cell_map, cell_fn, cell_ifc, loadAt, faddrV, partOf, extractV, mkAgg, ofD, splice, St.setObj, fillV, hxl, hbl, c5_k35, c5_k34, repl, rowsOf]
  -- behind the copy
  have rest : ∀ (w : V) (σ : St) (x1 : V), MutB St.empty σ w b → wcode (Dn.Call Γ cx) cx c5_k33 ([(0, .d x), (1, .d y), (5, w)] ++ tail13 .any .any .any .any .any .any .any .any .any .any .any .any .any) σ (endQ .val St.empty [.tmp 4] fun v _ => v = B true) := by
    intro w σ x1 hm
    simp -implicitDefEqProofs [body_eq, w_skip, w_ops, w_seq, w_cond, w_block, w_exit, w_ret, q_then_n, q_then_e, q_then_r, q_blk_n, q_blk_e, q_blk_r, q_ops, q_cont, q_end_n, q_end_r, q_end_e, q_loop_n, q_loop_e, q_loop_r, i_nil, i_p, i_alloc, i_box, i_store, i_copy, i_clear, i_make, i_call, i_callv, i_when, t_nil, t_p, t_call, t_alloc, t_box, t_store, kept_nil, t_copy, t_clear, t_make, q_tcont, gsel, List.cons_append, List.nil_append, evalP, evalE, Opd.ev, Env.get, Env.set, Env.pick, putE, initEnv, evalBin, intBin, evalUn, evalConv, goneAll, goneOne, retV, resAll, Res.ev, tupOf, byVals, byValsN, bv_d, bv_da, bv_fl, bv_tl, bn_d, bn_da, bn_fl, bn_tl, cx, Dn.newObj, St.place, St.push, St.spot, St.empty, cell_d, cell_da, cell_agg, cell_ref, cell_sl, cell_fl, cell_tl, cell_map, cell_fn, cell_ifc, loadAt, faddrV, partOf, extractV, mkAgg, ofD, splice, St.setObj, fillV, c5_k33]
    refine use_raw (s_ReadM hm (by omega)) fun u σ1 ⟨⟨r, v1, e, hr, hin⟩, hfr⟩ => ?_
    subst e
    simp -implicitDefEqProofs [body_eq, w_skip, w_ops, w_seq, w_cond, w_block, w_exit, w_ret, q_then_n, q_then_e, q_then_r, q_blk_n, q_blk_e, q_blk_r, q_ops, q_cont, q_end_n, q_end_r, q_end_e, q_loop_n, q_loop_e, q_loop_r, i_nil, i_p, i_alloc, i_box, i_store, i_copy, i_clear, i_make, i_call, i_callv, i_when, t_nil, t_p, t_call, t_alloc, t_box, t_store, kept_nil, t_copy, t_clear, t_make, q_tcont, gsel, List.cons_append, List.nil_append, evalP, evalE, Opd.ev, Env.get, Env.set, Env.pick, putE, initEnv, evalBin, intBin, evalUn, evalConv, goneAll, goneOne, retV, resAll, Res.ev, tupOf, byVals, byValsN, bv_d, bv_da, bv_fl, bv_tl, bn_d, bn_da, bn_fl, bn_tl, cx, Dn.newObj, St.place, St.push, St.spot, St.empty, cell_d, cell_da, cell_agg, cell_ref, cell_sl, cell_fl, cell_tl, cell_map, cell_fn, cell_ifc, loadAt, faddrV, partOf, extractV, mkAgg, ofD, splice, St.setObj, fillV, ofD]
    have hr1 : r < σ1.objs.length := (List.getElem?_eq_some_iff.1 hin.obj).1
    obtain ⟨σ2, hσ2⟩ : ∃ s1 : St, (⟨σ1.objs ++ [.cells [.d x, .d (.bool false)]], σ1.toks⟩ : St) = s1 := ⟨_, rfl⟩
    rw [hσ2]
    have f1 : Fr [] σ1 σ2 := ⟨by rw [← hσ2]; simp, fun q _ hq => by rw [← hσ2]; simp [List.getElem?_append_left hq]⟩
    have g1 : σ2.objs[σ1.objs.length]? = some (.cells [.d x, B false]) := by rw [← hσ2]; simp
    have hB : Both σ2 r σ1.objs.length (b, false) := ⟨⟨v1, f1.get hin.obj (by simp), hin.lv, hin.tl⟩, ⟨x, g1, hx⟩, by omega⟩
    rcases hm with ⟨rfl, hnl⟩ | ⟨q, rfl, hq, hcs⟩
    · simp -implicitDefEqProofs [body_eq, w_skip, w_ops, w_seq, w_cond, w_block, w_exit, w_ret, q_then_n, q_then_e, q_then_r, q_blk_n, q_blk_e, q_blk_r, q_ops, q_cont, q_end_n, q_end_r, q_end_e, q_loop_n, q_loop_e, q_loop_r, i_nil, i_p, i_alloc, i_box, i_store, i_copy, i_clear, i_make, i_call, i_callv, i_when, t_nil, t_p, t_call, t_alloc, t_box, t_store, kept_nil, t_copy, t_clear, t_make, q_tcont, gsel, List.cons_append, List.nil_append, evalP, evalE, Opd.ev, Env.get, Env.set, Env.pick, putE, initEnv, evalBin, intBin, evalUn, evalConv, goneAll, goneOne, retV, resAll, Res.ev, tupOf, byVals, byValsN, bv_d, bv_da, bv_fl, bv_tl, bn_d, bn_da, bn_fl, bn_tl, cx, Dn.newObj, St.place, St.push, St.spot, St.empty, cell_d, cell_da, cell_agg, cell_ref, cell_sl, cell_fl, cell_tl, cell_map, cell_fn, cell_ifc, loadAt, faddrV, partOf, extractV, mkAgg, ofD, splice, St.setObj, fillV, c5_k32, hnl.len σ2, c5_k31]
      refine wround ?_
      simp -implicitDefEqProofs [body_eq, w_skip, w_ops, w_seq, w_cond, w_block, w_exit, w_ret, q_then_n, q_then_e, q_then_r, q_blk_n, q_blk_e, q_blk_r, q_ops, q_cont, q_end_n, q_end_r, q_end_e, q_loop_n, q_loop_e, q_loop_r, i_nil, i_p, i_alloc, i_box, i_store, i_copy, i_clear, i_make, i_call, i_callv, i_when, t_nil, t_p, t_call, t_alloc, t_box, t_store, kept_nil, t_copy, t_clear, t_make, q_tcont, gsel, List.cons_append, List.nil_append, evalP, evalE, Opd.ev, Env.get, Env.set, Env.pick, putE, initEnv, evalBin, intBin, evalUn, evalConv, goneAll, goneOne, retV, resAll, Res.ev, tupOf, byVals, byValsN, bv_d, bv_da, bv_fl, bv_tl, bn_d, bn_da, bn_fl, bn_tl, cx, Dn.newObj, St.place, St.push, St.spot, St.empty, cell_d, cell_da, cell_agg, cell_ref, cell_sl, cell_fl, cell_tl, cell_map, cell_fn, cell_ifc, loadAt, faddrV, partOf, extractV, mkAgg, ofD, splice, St.setObj, fillV, c5_l30, c5_k29]
      exact reads_loop hy hok hl41 hB hbl' _ _ _ _
    · have hql : q < σ.objs.length := (List.getElem?_eq_some_iff.1 hcs).1
      simp -implicitDefEqProofs [body_eq, w_skip, w_ops, w_seq, w_cond, w_block, w_exit, w_ret, q_then_n, q_then_e, q_then_r, q_blk_n, q_blk_e, q_blk_r, q_ops, q_cont, q_end_n, q_end_r, q_end_e, q_loop_n, q_loop_e, q_loop_r, i_nil, i_p, i_alloc, i_box, i_store, i_copy, i_clear, i_make, i_call, i_callv, i_when, t_nil, t_p, t_call, t_alloc, t_box, t_store, kept_nil, t_copy, t_clear, t_make, q_tcont, gsel, List.cons_append, List.nil_append, evalP, evalE, Opd.ev, Env.get, Env.set, Env.pick, putE, initEnv, evalBin, intBin, evalUn, evalConv, goneAll, goneOne, retV, resAll, Res.ev, tupOf, byVals, byValsN, bv_d, bv_da, bv_fl, bv_tl, bn_d, bn_da, bn_fl, bn_tl, cx, Dn.newObj, St.place, St.push, St.spot, St.empty, cell_d, cell_da, cell_agg, cell_ref, cell_sl, cell_fl, cell_tl, cell_map, cell_fn, cell_ifc, loadAt, faddrV, partOf, extractV, mkAgg, ofD, splice, St.setObj, fillV, c5_k32, lenT, lenV, c5_k31]
      refine wloopI (InvFlip2 y r σ1.objs.length q b.length (b, false)) (m := b.length) ⟨0, rfl, by omega, rfl, hB, by omega, by have := hfr.len; omega, b.map (fun b => (b.toNat : Int)), by simp, by rw [f1.get (hfr.get hcs (by simp)) (by simp)]; simp⟩ ?_
      rintro m e σ3 ⟨j, rfl, hj, rfl, hB3, hqr, hqp, cs, hcl, hob⟩
      simp -implicitDefEqProofs [body_eq, w_skip, w_ops, w_seq, w_cond, w_block, w_exit, w_ret, q_then_n, q_then_e, q_then_r, q_blk_n, q_blk_e, q_blk_r, q_ops, q_cont, q_end_n, q_end_r, q_end_e, q_loop_n, q_loop_e, q_loop_r, i_nil, i_p, i_alloc, i_box, i_store, i_copy, i_clear, i_make, i_call, i_callv, i_when, t_nil, t_p, t_call, t_alloc, t_box, t_store, kept_nil, t_copy, t_clear, t_make, q_tcont, gsel, List.cons_append, List.nil_append, evalP, evalE, Opd.ev, Env.get, Env.set, Env.pick, putE, initEnv, evalBin, intBin, evalUn, evalConv, goneAll, goneOne, retV, resAll, Res.ev, tupOf, byVals, byValsN, bv_d, bv_da, bv_fl, bv_tl, bn_d, bn_da, bn_fl, bn_tl, cx, Dn.newObj, St.place, St.push, St.spot, St.empty, cell_d, cell_da, cell_agg, cell_ref, cell_sl, cell_fl, cell_tl, cell_map, cell_fn, cell_ifc, loadAt, faddrV, partOf, extractV, mkAgg, ofD, splice, St.setObj, fillV, c5_l30, c5_k29]
      by_cases hjl : j < b.length
      rotate_left
      · obtain rfl : j = b.length := by omega
        simp -implicitDefEqProofs [body_eq, w_skip, w_ops, w_seq, w_cond, w_block, w_exit, w_ret, q_then_n, q_then_e, q_then_r, q_blk_n, q_blk_e, q_blk_r, q_ops, q_cont, q_end_n, q_end_r, q_end_e, q_loop_n, q_loop_e, q_loop_r, i_nil, i_p, i_alloc, i_box, i_store, i_copy, i_clear, i_make, i_call, i_callv, i_when, t_nil, t_p, t_call, t_alloc, t_box, t_store, kept_nil, t_copy, t_clear, t_make, q_tcont, gsel, List.cons_append, List.nil_append, evalP, evalE, Opd.ev, Env.get, Env.set, Env.pick, putE, initEnv, evalBin, intBin, evalUn, evalConv, goneAll, goneOne, retV, resAll, Res.ev, tupOf, byVals, byValsN, bv_d, bv_da, bv_fl, bv_tl, bn_d, bn_da, bn_fl, bn_tl, cx, Dn.newObj, St.place, St.push, St.spot, St.empty, cell_d, cell_da, cell_agg, cell_ref, cell_sl, cell_fl, cell_tl, cell_map, cell_fn, cell_ifc, loadAt, faddrV, partOf, extractV, mkAgg, ofD, splice, St.setObj, fillV]
        exact reads_loop hy hok hl41 hB3 hbl' _ _ _ _
      have hjj : (j : Int) < b.length := by omega
      have hcj : cs[j]? = some (cs[j]'(by omega)) := by simp [show j < cs.length by omega]
      have hql : q < σ3.objs.length := (List.getElem?_eq_some_iff.1 hob).1
      have hj1 : j + 1 ≤ cs.length := by omega
      simp -implicitDefEqProofs [body_eq, w_skip, w_ops, w_seq, w_cond, w_block, w_exit, w_ret, q_then_n, q_then_e, q_then_r, q_blk_n, q_blk_e, q_blk_r, q_ops, q_cont, q_end_n, q_end_r, q_end_e, q_loop_n, q_loop_e, q_loop_r, i_nil, i_p, i_alloc, i_box, i_store, i_copy, i_clear, i_make, i_call, i_callv, i_when, t_nil, t_p, t_call, t_alloc, t_box, t_store, kept_nil, t_copy, t_clear, t_make, q_tcont, gsel, List.cons_append, List.nil_append, evalP, evalE, Opd.ev, Env.get, Env.set, Env.pick, putE, initEnv, evalBin, intBin, evalUn, evalConv, goneAll, goneOne, retV, resAll, Res.ev, tupOf, byVals, byValsN, bv_d, bv_da, bv_fl, bv_tl, bn_d, bn_da, bn_fl, bn_tl, cx, Dn.newObj, St.place, St.push, St.spot, St.empty, cell_d, cell_da, cell_agg, cell_ref, cell_sl, cell_fl, cell_tl, cell_map, cell_fn, cell_ifc, loadAt, faddrV, partOf, extractV, mkAgg, ofD, splice, St.setObj, fillV, hjj, hjl, c5_k28, c5_k27, iaddrV, asIdx, hob, hcj, hj1, wrap_i64 (n := (j : Int) + 1) (by omega) (by omega)]
      obtain ⟨⟨v, hv⟩, ⟨b0, hb0, hlv⟩, hn⟩ := hB3
      refine ⟨b.length - (j + 1), by omega, j + 1, rfl, by omega, rfl, ⟨⟨v, ?_, hv.lv, hv.tl⟩, ⟨b0, ?_, hlv⟩, hn⟩, hqr, hqp, cs.take j ++ bits .xor .u8 (cs[j]'(by omega)) 1 :: cs.drop (j + 1), by simp; omega, ?_⟩
      · simp only
        rw [List.getElem?_set_ne hqr]
        exact hv.obj
      · simp only
        rw [List.getElem?_set_ne hqp]
        exact hb0
      · simp only
        rw [List.getElem?_set_self hql]
        simp
  by_cases he : b = []
  · subst he
    refine i_app_f (v := .fl []) (s := ⟨[], []⟩) ?_ ?_
    · have hr := hx.rows ⟨[], []⟩
      simp [evalE, Opd.ev, Env.get, hr]
      simp [appendV, byteRows, fitR, V.rows]
    · simp -implicitDefEqProofs [body_eq, w_skip, w_ops, w_seq, w_cond, w_block, w_exit, w_ret, q_then_n, q_then_e, q_then_r, q_blk_n, q_blk_e, q_blk_r, q_ops, q_cont, q_end_n, q_end_r, q_end_e, q_loop_n, q_loop_e, q_loop_r, i_nil, i_p, i_alloc, i_box, i_store, i_copy, i_clear, i_make, i_call, i_callv, i_when, t_nil, t_p, t_call, t_alloc, t_box, t_store, kept_nil, t_copy, t_clear, t_make, q_tcont, gsel, List.cons_append, List.nil_append, evalP, evalE, Opd.ev, Env.get, Env.set, Env.pick, putE, initEnv, evalBin, intBin, evalUn, evalConv, goneAll, goneOne, retV, resAll, Res.ev, tupOf, byVals, byValsN, bv_d, bv_da, bv_fl, bv_tl, bn_d, bn_da, bn_fl, bn_tl, cx, Dn.newObj, St.place, St.push, St.spot, St.empty, cell_d, cell_da, cell_agg, cell_ref, cell_sl, cell_fl, cell_tl, cell_map, cell_fn, cell_ifc, loadAt, faddrV, partOf, extractV, mkAgg, ofD, splice, St.setObj, fillV]
      exact rest _ _ .any (.inl ⟨rfl, .fl _⟩)
  · have hne : byteRows b ≠ [] := by cases b with | nil => exact absurd rfl he | cons a r => simp [byteRows]
    refine i_app_m (v := .sl 0 0 b.length 1) (s := ⟨[.cells (b.map fun b => Y b.toNat)], []⟩) ?_ ?_
    · simp only [evalM, Opd.ev, Env.get]
      simp [hx.rows ⟨[], []⟩]
      rw [appendM_fl (by decide) (by simp) (byteRows_fit _) hne (by simp [byteRows_len]; omega) (by simp [byteRows_len]; omega)]
      rw [List.nil_append, byteRows_cells]
      simp [byteRows_len, St.push]
    · simp -implicitDefEqProofs [body_eq, w_skip, w_ops, w_seq, w_cond, w_block, w_exit, w_ret, q_then_n, q_then_e, q_then_r, q_blk_n, q_blk_e, q_blk_r, q_ops, q_cont, q_end_n, q_end_r, q_end_e, q_loop_n, q_loop_e, q_loop_r, i_nil, i_p, i_alloc, i_box, i_store, i_copy, i_clear, i_make, i_call, i_callv, i_when, t_nil, t_p, t_call, t_alloc, t_box, t_store, kept_nil, t_copy, t_clear, t_make, q_tcont, gsel, List.cons_append, List.nil_append, evalP, evalE, Opd.ev, Env.get, Env.set, Env.pick, putE, initEnv, evalBin, intBin, evalUn, evalConv, goneAll, goneOne, retV, resAll, Res.ev, tupOf, byVals, byValsN, bv_d, bv_da, bv_fl, bv_tl, bn_d, bn_da, bn_fl, bn_tl, cx, Dn.newObj, St.place, St.push, St.spot, St.empty, cell_d, cell_da, cell_agg, cell_ref, cell_sl, cell_fl, cell_tl, cell_map, cell_fn, cell_ifc, loadAt, faddrV, partOf, extractV, mkAgg, ofD, splice, St.setObj, fillV]
      exact rest _ _ .any (.inr ⟨_, rfl, by simp [St.empty], by simp⟩)

theorem law5 {x y : D} (hx : (Lk.list [.int .u8]).fits x) (hy : (Lk.list thingK).fits y) : Dn.Call Γ cx .val 5 [.d x, .d y] St.empty fun r _ => r = B true := by
  obtain ⟨l, hl, h⟩ := things_fit hy
  obtain ⟨b, hb⟩ := bytes_fit hx
  exact s5 hb h hl

end Go.Proofs.Ytjkedjjahjlmfaa.T
