import Derived.Test.YtgpbkgfkmengaaaA4
namespace Go.Proofs.Ytgpbkgfkmengaaa.T
open Go.Dn
set_option linter.unusedSimpArgs false

theorem s4 (f w per least : Int) : Dn.Call Γ cx 4 [rate f w, I per, I least] St.empty fun v _ => v = B true := by
  refine Dn.Call.body (fc := c4) rfl ?_
  simp -implicitDefEqProofs [body_eq, w_skip, w_ops, w_seq, w_cond, w_block, w_exit, w_ret, q_then_n, q_then_e, q_then_r, q_blk_n, q_blk_e, q_blk_r, q_ops, q_cont, q_end_n, q_end_r, q_end_e, q_loop_n, q_loop_e, q_loop_r, i_nil, i_p, i_e, i_call, i_when, t_nil, t_p, t_call, t_e, q_tcont, gsel, List.cons_append, List.nil_append, evalP, evalE, Opd.ev, Env.get, Env.set, Env.pick, putE, initEnv, evalBin, intBin, evalUn, evalConv, goneAll, goneOne, retV, resAll, Res.ev, tupOf, byVals, V.byVal, cx, newObj, St.place, St.push, St.spot, St.empty, V.cells, loadAt, faddrV, partOf, extractV, mkAgg, ofD, splice, St.setObj, fillV, c4]
  refine use_fn rfl rfl s7 rfl ?_
  simp -implicitDefEqProofs [body_eq, w_skip, w_ops, w_seq, w_cond, w_block, w_exit, w_ret, q_then_n, q_then_e, q_then_r, q_blk_n, q_blk_e, q_blk_r, q_ops, q_cont, q_end_n, q_end_r, q_end_e, q_loop_n, q_loop_e, q_loop_r, i_nil, i_p, i_e, i_call, i_when, t_nil, t_p, t_call, t_e, q_tcont, gsel, List.cons_append, List.nil_append, evalP, evalE, Opd.ev, Env.get, Env.set, Env.pick, putE, initEnv, evalBin, intBin, evalUn, evalConv, goneAll, goneOne, retV, resAll, Res.ev, tupOf, byVals, V.byVal, cx, newObj, St.place, St.push, St.spot, St.empty, V.cells, loadAt, faddrV, partOf, extractV, mkAgg, ofD, splice, St.setObj, fillV]
  refine use_fn rfl rfl (s15 w per) (by split <;> rfl) ?_
  by_cases hb : badNeed w per = true
  · simp -implicitDefEqProofs [body_eq, w_skip, w_ops, w_seq, w_cond, w_block, w_exit, w_ret, q_then_n, q_then_e, q_then_r, q_blk_n, q_blk_e, q_blk_r, q_ops, q_cont, q_end_n, q_end_r, q_end_e, q_loop_n, q_loop_e, q_loop_r, i_nil, i_p, i_e, i_call, i_when, t_nil, t_p, t_call, t_e, q_tcont, gsel, List.cons_append, List.nil_append, evalP, evalE, Opd.ev, Env.get, Env.set, Env.pick, putE, initEnv, evalBin, intBin, evalUn, evalConv, goneAll, goneOne, retV, resAll, Res.ev, tupOf, byVals, V.byVal, cx, newObj, St.place, St.push, St.spot, St.empty, V.cells, loadAt, faddrV, partOf, extractV, mkAgg, ofD, splice, St.setObj, fillV, hb]
    refine use_fn rfl rfl (s16 w per) (by split <;> rfl) ?_
    simp -implicitDefEqProofs [body_eq, w_skip, w_ops, w_seq, w_cond, w_block, w_exit, w_ret, q_then_n, q_then_e, q_then_r, q_blk_n, q_blk_e, q_blk_r, q_ops, q_cont, q_end_n, q_end_r, q_end_e, q_loop_n, q_loop_e, q_loop_r, i_nil, i_p, i_e, i_call, i_when, t_nil, t_p, t_call, t_e, q_tcont, gsel, List.cons_append, List.nil_append, evalP, evalE, Opd.ev, Env.get, Env.set, Env.pick, putE, initEnv, evalBin, intBin, evalUn, evalConv, goneAll, goneOne, retV, resAll, Res.ev, tupOf, byVals, V.byVal, cx, newObj, St.place, St.push, St.spot, St.empty, V.cells, loadAt, faddrV, partOf, extractV, mkAgg, ofD, splice, St.setObj, fillV, hb]
    refine w_drw (by decide +kernel) ?_
    simp -implicitDefEqProofs [body_eq, w_skip, w_ops, w_seq, w_cond, w_block, w_exit, w_ret, q_then_n, q_then_e, q_then_r, q_blk_n, q_blk_e, q_blk_r, q_ops, q_cont, q_end_n, q_end_r, q_end_e, q_loop_n, q_loop_e, q_loop_r, i_nil, i_p, i_e, i_call, i_when, t_nil, t_p, t_call, t_e, q_tcont, gsel, List.cons_append, List.nil_append, evalP, evalE, Opd.ev, Env.get, Env.set, Env.pick, putE, initEnv, evalBin, intBin, evalUn, evalConv, goneAll, goneOne, retV, resAll, Res.ev, tupOf, byVals, V.byVal, cx, newObj, St.place, St.push, St.spot, St.empty, V.cells, loadAt, faddrV, partOf, extractV, mkAgg, ofD, splice, St.setObj, fillV, St.room]
    refine use_fnN rfl rfl (s14 (n := 1) rfl) rfl ?_
    simp -implicitDefEqProofs [body_eq, w_skip, w_ops, w_seq, w_cond, w_block, w_exit, w_ret, q_then_n, q_then_e, q_then_r, q_blk_n, q_blk_e, q_blk_r, q_ops, q_cont, q_end_n, q_end_r, q_end_e, q_loop_n, q_loop_e, q_loop_r, i_nil, i_p, i_e, i_call, i_when, t_nil, t_p, t_call, t_e, q_tcont, gsel, List.cons_append, List.nil_append, evalP, evalE, Opd.ev, Env.get, Env.set, Env.pick, putE, initEnv, evalBin, intBin, evalUn, evalConv, goneAll, goneOne, retV, resAll, Res.ev, tupOf, byVals, V.byVal, cx, newObj, St.place, St.push, St.spot, St.empty, V.cells, loadAt, faddrV, partOf, extractV, mkAgg, ofD, splice, St.setObj, fillV]
    refine use_fnN rfl rfl (s17 f w per least) rfl ?_
    simp -implicitDefEqProofs [body_eq, w_skip, w_ops, w_seq, w_cond, w_block, w_exit, w_ret, q_then_n, q_then_e, q_then_r, q_blk_n, q_blk_e, q_blk_r, q_ops, q_cont, q_end_n, q_end_r, q_end_e, q_loop_n, q_loop_e, q_loop_r, i_nil, i_p, i_e, i_call, i_when, t_nil, t_p, t_call, t_e, q_tcont, gsel, List.cons_append, List.nil_append, evalP, evalE, Opd.ev, Env.get, Env.set, Env.pick, putE, initEnv, evalBin, intBin, evalUn, evalConv, goneAll, goneOne, retV, resAll, Res.ev, tupOf, byVals, V.byVal, cx, newObj, St.place, St.push, St.spot, St.empty, V.cells, loadAt, faddrV, partOf, extractV, mkAgg, ofD, splice, St.setObj, fillV]
    refine use_fnN rfl rfl (s18 f w per least) rfl ?_
    simp -implicitDefEqProofs [body_eq, w_skip, w_ops, w_seq, w_cond, w_block, w_exit, w_ret, q_then_n, q_then_e, q_then_r, q_blk_n, q_blk_e, q_blk_r, q_ops, q_cont, q_end_n, q_end_r, q_end_e, q_loop_n, q_loop_e, q_loop_r, i_nil, i_p, i_e, i_call, i_when, t_nil, t_p, t_call, t_e, q_tcont, gsel, List.cons_append, List.nil_append, evalP, evalE, Opd.ev, Env.get, Env.set, Env.pick, putE, initEnv, evalBin, intBin, evalUn, evalConv, goneAll, goneOne, retV, resAll, Res.ev, tupOf, byVals, V.byVal, cx, newObj, St.place, St.push, St.spot, St.empty, V.cells, loadAt, faddrV, partOf, extractV, mkAgg, ofD, splice, St.setObj, fillV, eqV]
  · simp -implicitDefEqProofs [body_eq, w_skip, w_ops, w_seq, w_cond, w_block, w_exit, w_ret, q_then_n, q_then_e, q_then_r, q_blk_n, q_blk_e, q_blk_r, q_ops, q_cont, q_end_n, q_end_r, q_end_e, q_loop_n, q_loop_e, q_loop_r, i_nil, i_p, i_e, i_call, i_when, t_nil, t_p, t_call, t_e, q_tcont, gsel, List.cons_append, List.nil_append, evalP, evalE, Opd.ev, Env.get, Env.set, Env.pick, putE, initEnv, evalBin, intBin, evalUn, evalConv, goneAll, goneOne, retV, resAll, Res.ev, tupOf, byVals, V.byVal, cx, newObj, St.place, St.push, St.spot, St.empty, V.cells, loadAt, faddrV, partOf, extractV, mkAgg, ofD, splice, St.setObj, fillV, hb]
    refine use_fn rfl rfl (s16 w per) (by split <;> rfl) ?_
    simp -implicitDefEqProofs [body_eq, w_skip, w_ops, w_seq, w_cond, w_block, w_exit, w_ret, q_then_n, q_then_e, q_then_r, q_blk_n, q_blk_e, q_blk_r, q_ops, q_cont, q_end_n, q_end_r, q_end_e, q_loop_n, q_loop_e, q_loop_r, i_nil, i_p, i_e, i_call, i_when, t_nil, t_p, t_call, t_e, q_tcont, gsel, List.cons_append, List.nil_append, evalP, evalE, Opd.ev, Env.get, Env.set, Env.pick, putE, initEnv, evalBin, intBin, evalUn, evalConv, goneAll, goneOne, retV, resAll, Res.ev, tupOf, byVals, V.byVal, cx, newObj, St.place, St.push, St.spot, St.empty, V.cells, loadAt, faddrV, partOf, extractV, mkAgg, ofD, splice, St.setObj, fillV, hb]
    refine w_drw (by decide +kernel) ?_
    simp -implicitDefEqProofs [body_eq, w_skip, w_ops, w_seq, w_cond, w_block, w_exit, w_ret, q_then_n, q_then_e, q_then_r, q_blk_n, q_blk_e, q_blk_r, q_ops, q_cont, q_end_n, q_end_r, q_end_e, q_loop_n, q_loop_e, q_loop_r, i_nil, i_p, i_e, i_call, i_when, t_nil, t_p, t_call, t_e, q_tcont, gsel, List.cons_append, List.nil_append, evalP, evalE, Opd.ev, Env.get, Env.set, Env.pick, putE, initEnv, evalBin, intBin, evalUn, evalConv, goneAll, goneOne, retV, resAll, Res.ev, tupOf, byVals, V.byVal, cx, newObj, St.place, St.push, St.spot, St.empty, V.cells, loadAt, faddrV, partOf, extractV, mkAgg, ofD, splice, St.setObj, fillV, St.room]
    refine use_fnN rfl rfl (s14 (n := 0) rfl) rfl ?_
    simp -implicitDefEqProofs [body_eq, w_skip, w_ops, w_seq, w_cond, w_block, w_exit, w_ret, q_then_n, q_then_e, q_then_r, q_blk_n, q_blk_e, q_blk_r, q_ops, q_cont, q_end_n, q_end_r, q_end_e, q_loop_n, q_loop_e, q_loop_r, i_nil, i_p, i_e, i_call, i_when, t_nil, t_p, t_call, t_e, q_tcont, gsel, List.cons_append, List.nil_append, evalP, evalE, Opd.ev, Env.get, Env.set, Env.pick, putE, initEnv, evalBin, intBin, evalUn, evalConv, goneAll, goneOne, retV, resAll, Res.ev, tupOf, byVals, V.byVal, cx, newObj, St.place, St.push, St.spot, St.empty, V.cells, loadAt, faddrV, partOf, extractV, mkAgg, ofD, splice, St.setObj, fillV]
    refine use_fnN rfl rfl (s17 f w per least) rfl ?_
    simp -implicitDefEqProofs [body_eq, w_skip, w_ops, w_seq, w_cond, w_block, w_exit, w_ret, q_then_n, q_then_e, q_then_r, q_blk_n, q_blk_e, q_blk_r, q_ops, q_cont, q_end_n, q_end_r, q_end_e, q_loop_n, q_loop_e, q_loop_r, i_nil, i_p, i_e, i_call, i_when, t_nil, t_p, t_call, t_e, q_tcont, gsel, List.cons_append, List.nil_append, evalP, evalE, Opd.ev, Env.get, Env.set, Env.pick, putE, initEnv, evalBin, intBin, evalUn, evalConv, goneAll, goneOne, retV, resAll, Res.ev, tupOf, byVals, V.byVal, cx, newObj, St.place, St.push, St.spot, St.empty, V.cells, loadAt, faddrV, partOf, extractV, mkAgg, ofD, splice, St.setObj, fillV]
    refine use_fnN rfl rfl (s18 f w per least) rfl ?_
    simp -implicitDefEqProofs [body_eq, w_skip, w_ops, w_seq, w_cond, w_block, w_exit, w_ret, q_then_n, q_then_e, q_then_r, q_blk_n, q_blk_e, q_blk_r, q_ops, q_cont, q_end_n, q_end_r, q_end_e, q_loop_n, q_loop_e, q_loop_r, i_nil, i_p, i_e, i_call, i_when, t_nil, t_p, t_call, t_e, q_tcont, gsel, List.cons_append, List.nil_append, evalP, evalE, Opd.ev, Env.get, Env.set, Env.pick, putE, initEnv, evalBin, intBin, evalUn, evalConv, goneAll, goneOne, retV, resAll, Res.ev, tupOf, byVals, V.byVal, cx, newObj, St.place, St.push, St.spot, St.empty, V.cells, loadAt, faddrV, partOf, extractV, mkAgg, ofD, splice, St.setObj, fillV, eqV]

theorem hΓ : ∀ (f : Nat) (fc : FnC), Γ f = some fc → Nonempty (Fits Try.prog f fc) := by
  intro f fc h
  unfold Γ at h
  split at h
  case h_29 => cases h
  all_goals (cases h)
  all_goals first
    | (obtain ⟨fn, code, h1, h2, h3, h4, h5, h6⟩ := comp3; exact ⟨⟨fn, code, h1, h2, h3, h4, h5, h6⟩⟩)
    | (obtain ⟨fn, code, h1, h2, h3, h4, h5, h6⟩ := comp4; exact ⟨⟨fn, code, h1, h2, h3, h4, h5, h6⟩⟩)
    | (obtain ⟨fn, code, h1, h2, h3, h4, h5, h6⟩ := comp5; exact ⟨⟨fn, code, h1, h2, h3, h4, h5, h6⟩⟩)
    | (obtain ⟨fn, code, h1, h2, h3, h4, h5, h6⟩ := comp6; exact ⟨⟨fn, code, h1, h2, h3, h4, h5, h6⟩⟩)
    | (obtain ⟨fn, code, h1, h2, h3, h4, h5, h6⟩ := comp7; exact ⟨⟨fn, code, h1, h2, h3, h4, h5, h6⟩⟩)
    | (obtain ⟨fn, code, h1, h2, h3, h4, h5, h6⟩ := comp8; exact ⟨⟨fn, code, h1, h2, h3, h4, h5, h6⟩⟩)
    | (obtain ⟨fn, code, h1, h2, h3, h4, h5, h6⟩ := comp9; exact ⟨⟨fn, code, h1, h2, h3, h4, h5, h6⟩⟩)
    | (obtain ⟨fn, code, h1, h2, h3, h4, h5, h6⟩ := comp10; exact ⟨⟨fn, code, h1, h2, h3, h4, h5, h6⟩⟩)
    | (obtain ⟨fn, code, h1, h2, h3, h4, h5, h6⟩ := comp11; exact ⟨⟨fn, code, h1, h2, h3, h4, h5, h6⟩⟩)
    | (obtain ⟨fn, code, h1, h2, h3, h4, h5, h6⟩ := comp12; exact ⟨⟨fn, code, h1, h2, h3, h4, h5, h6⟩⟩)
    | (obtain ⟨fn, code, h1, h2, h3, h4, h5, h6⟩ := comp13; exact ⟨⟨fn, code, h1, h2, h3, h4, h5, h6⟩⟩)
    | (obtain ⟨fn, code, h1, h2, h3, h4, h5, h6⟩ := comp14; exact ⟨⟨fn, code, h1, h2, h3, h4, h5, h6⟩⟩)
    | (obtain ⟨fn, code, h1, h2, h3, h4, h5, h6⟩ := comp15; exact ⟨⟨fn, code, h1, h2, h3, h4, h5, h6⟩⟩)
    | (obtain ⟨fn, code, h1, h2, h3, h4, h5, h6⟩ := comp16; exact ⟨⟨fn, code, h1, h2, h3, h4, h5, h6⟩⟩)
    | (obtain ⟨fn, code, h1, h2, h3, h4, h5, h6⟩ := comp17; exact ⟨⟨fn, code, h1, h2, h3, h4, h5, h6⟩⟩)
    | (obtain ⟨fn, code, h1, h2, h3, h4, h5, h6⟩ := comp18; exact ⟨⟨fn, code, h1, h2, h3, h4, h5, h6⟩⟩)
    | (obtain ⟨fn, code, h1, h2, h3, h4, h5, h6⟩ := comp19; exact ⟨⟨fn, code, h1, h2, h3, h4, h5, h6⟩⟩)
    | (obtain ⟨fn, code, h1, h2, h3, h4, h5, h6⟩ := comp20; exact ⟨⟨fn, code, h1, h2, h3, h4, h5, h6⟩⟩)
    | (obtain ⟨fn, code, h1, h2, h3, h4, h5, h6⟩ := comp21; exact ⟨⟨fn, code, h1, h2, h3, h4, h5, h6⟩⟩)
    | (obtain ⟨fn, code, h1, h2, h3, h4, h5, h6⟩ := comp22; exact ⟨⟨fn, code, h1, h2, h3, h4, h5, h6⟩⟩)
    | (obtain ⟨fn, code, h1, h2, h3, h4, h5, h6⟩ := comp23; exact ⟨⟨fn, code, h1, h2, h3, h4, h5, h6⟩⟩)
    | (obtain ⟨fn, code, h1, h2, h3, h4, h5, h6⟩ := comp24; exact ⟨⟨fn, code, h1, h2, h3, h4, h5, h6⟩⟩)
    | (obtain ⟨fn, code, h1, h2, h3, h4, h5, h6⟩ := comp25; exact ⟨⟨fn, code, h1, h2, h3, h4, h5, h6⟩⟩)
    | (obtain ⟨fn, code, h1, h2, h3, h4, h5, h6⟩ := comp26; exact ⟨⟨fn, code, h1, h2, h3, h4, h5, h6⟩⟩)
    | (obtain ⟨fn, code, h1, h2, h3, h4, h5, h6⟩ := comp27; exact ⟨⟨fn, code, h1, h2, h3, h4, h5, h6⟩⟩)
    | (obtain ⟨fn, code, h1, h2, h3, h4, h5, h6⟩ := comp28; exact ⟨⟨fn, code, h1, h2, h3, h4, h5, h6⟩⟩)
    | (obtain ⟨fn, code, h1, h2, h3, h4, h5, h6⟩ := comp29; exact ⟨⟨fn, code, h1, h2, h3, h4, h5, h6⟩⟩)
    | (obtain ⟨fn, code, h1, h2, h3, h4, h5, h6⟩ := comp30; exact ⟨⟨fn, code, h1, h2, h3, h4, h5, h6⟩⟩)

end Go.Proofs.Ytgpbkgfkmengaaa.T
