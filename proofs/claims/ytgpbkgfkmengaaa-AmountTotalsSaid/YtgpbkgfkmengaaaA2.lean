import Derived.Test.YtgpbkgfkmengaaaFw34
import Derived.Test.YtgpbkgfkmengaaaA1
namespace Go.Proofs.Ytgpbkgfkmengaaa.T
open Go.Dn
set_option linter.unusedSimpArgs false
def Γ : Nat → Option FnC
  | 3 => some c3
  | 4 => some c4
  | 5 => some c5
  | 6 => some c6
  | 7 => some c7
  | 8 => some c8
  | 9 => some c9
  | 10 => some c10
  | 11 => some c11
  | 12 => some c12
  | 13 => some c13
  | 14 => some c14
  | 15 => some c15
  | 16 => some c16
  | 17 => some c17
  | 18 => some c18
  | 19 => some c19
  | 20 => some c20
  | 21 => some c21
  | 22 => some c22
  | 23 => some c23
  | 24 => some c24
  | 25 => some c25
  | 26 => some c26
  | 27 => some c27
  | 28 => some c28
  | 29 => some c29
  | 30 => some c30
  | _ => none
def cx : Cx := ⟨fun _ => .val⟩

abbrev I (n : Int) : V := .d (.int .i64 n)
abbrev U (n : Int) : V := .d (.int .u64 n)
abbrev B (b : Bool) : V := .d (.bool b)
def good (n : Int) : Bool := decide (0 ≤ n) && decide (n ≤ 2100000000000000)
def right (f w : Int) : Bool := good f && decide (1 ≤ w) && decide (w ≤ 1099511627776)
abbrev rate (f w : Int) : V := .da [.int .i64 f, .int .i64 w]

theorem s23 (n : Int) : Dn.Call Γ cx 23 [I n] St.empty fun v _ => v = B (good n) := by
  refine Dn.Call.body (fc := c23) rfl ?_
  unfold good
  by_cases h1 : 0 ≤ n <;> by_cases h2 : n ≤ 2100000000000000 <;> simp -implicitDefEqProofs [body_eq, w_skip, w_ops, w_seq, w_cond, w_block, w_exit, w_ret, q_then_n, q_then_e, q_then_r, q_blk_n, q_blk_e, q_blk_r, q_ops, q_cont, q_end_n, q_end_r, q_end_e, q_loop_n, q_loop_e, q_loop_r, i_nil, i_p, i_e, i_call, i_when, t_nil, t_p, t_call, t_e, q_tcont, gsel, List.cons_append, List.nil_append, evalP, evalE, Opd.ev, Env.get, Env.set, Env.pick, putE, initEnv, evalBin, intBin, evalUn, evalConv, goneAll, goneOne, retV, resAll, Res.ev, tupOf, byVals, V.byVal, cx, newObj, St.place, St.push, St.spot, St.empty, V.cells, loadAt, faddrV, partOf, extractV, mkAgg, ofD, splice, St.setObj, fillV, c23, h1, h2]

theorem s24 (n : Int) : Dn.Call Γ cx 24 [I n] St.empty fun v _ => v = B (good n) := by
  refine Dn.Call.body (fc := c24) rfl ?_
  unfold good
  by_cases h1 : 0 ≤ n <;> by_cases h2 : n ≤ 2100000000000000 <;> simp -implicitDefEqProofs [body_eq, w_skip, w_ops, w_seq, w_cond, w_block, w_exit, w_ret, q_then_n, q_then_e, q_then_r, q_blk_n, q_blk_e, q_blk_r, q_ops, q_cont, q_end_n, q_end_r, q_end_e, q_loop_n, q_loop_e, q_loop_r, i_nil, i_p, i_e, i_call, i_when, t_nil, t_p, t_call, t_e, q_tcont, gsel, List.cons_append, List.nil_append, evalP, evalE, Opd.ev, Env.get, Env.set, Env.pick, putE, initEnv, evalBin, intBin, evalUn, evalConv, goneAll, goneOne, retV, resAll, Res.ev, tupOf, byVals, V.byVal, cx, newObj, St.place, St.push, St.spot, St.empty, V.cells, loadAt, faddrV, partOf, extractV, mkAgg, ofD, splice, St.setObj, fillV, c24, h1, h2]

theorem s10 (f w : Int) : Dn.Call Γ cx 10 [rate f w] St.empty fun v _ => v = B (right f w) := by
  refine Dn.Call.body (fc := c10) rfl ?_
  simp -implicitDefEqProofs [body_eq, w_skip, w_ops, w_seq, w_cond, w_block, w_exit, w_ret, q_then_n, q_then_e, q_then_r, q_blk_n, q_blk_e, q_blk_r, q_ops, q_cont, q_end_n, q_end_r, q_end_e, q_loop_n, q_loop_e, q_loop_r, i_nil, i_p, i_e, i_call, i_when, t_nil, t_p, t_call, t_e, q_tcont, gsel, List.cons_append, List.nil_append, evalP, evalE, Opd.ev, Env.get, Env.set, Env.pick, putE, initEnv, evalBin, intBin, evalUn, evalConv, goneAll, goneOne, retV, resAll, Res.ev, tupOf, byVals, V.byVal, cx, newObj, St.place, St.push, St.spot, St.empty, V.cells, loadAt, faddrV, partOf, extractV, mkAgg, ofD, splice, St.setObj, fillV, c10]
  refine use_fn rfl rfl (s23 f) rfl ?_
  unfold right
  by_cases h0 : good f = true <;> by_cases h1 : 1 ≤ w <;> by_cases h2 : w ≤ 1099511627776 <;> simp -implicitDefEqProofs [body_eq, w_skip, w_ops, w_seq, w_cond, w_block, w_exit, w_ret, q_then_n, q_then_e, q_then_r, q_blk_n, q_blk_e, q_blk_r, q_ops, q_cont, q_end_n, q_end_r, q_end_e, q_loop_n, q_loop_e, q_loop_r, i_nil, i_p, i_e, i_call, i_when, t_nil, t_p, t_call, t_e, q_tcont, gsel, List.cons_append, List.nil_append, evalP, evalE, Opd.ev, Env.get, Env.set, Env.pick, putE, initEnv, evalBin, intBin, evalUn, evalConv, goneAll, goneOne, retV, resAll, Res.ev, tupOf, byVals, V.byVal, cx, newObj, St.place, St.push, St.spot, St.empty, V.cells, loadAt, faddrV, partOf, extractV, mkAgg, ofD, splice, St.setObj, fillV, h0, h1, h2]

theorem s11 (f w : Int) : Dn.Call Γ cx 11 [rate f w] St.empty fun v _ => v = B (right f w) := by
  refine Dn.Call.body (fc := c11) rfl ?_
  simp -implicitDefEqProofs [body_eq, w_skip, w_ops, w_seq, w_cond, w_block, w_exit, w_ret, q_then_n, q_then_e, q_then_r, q_blk_n, q_blk_e, q_blk_r, q_ops, q_cont, q_end_n, q_end_r, q_end_e, q_loop_n, q_loop_e, q_loop_r, i_nil, i_p, i_e, i_call, i_when, t_nil, t_p, t_call, t_e, q_tcont, gsel, List.cons_append, List.nil_append, evalP, evalE, Opd.ev, Env.get, Env.set, Env.pick, putE, initEnv, evalBin, intBin, evalUn, evalConv, goneAll, goneOne, retV, resAll, Res.ev, tupOf, byVals, V.byVal, cx, newObj, St.place, St.push, St.spot, St.empty, V.cells, loadAt, faddrV, partOf, extractV, mkAgg, ofD, splice, St.setObj, fillV, c11]
  refine use_fn rfl rfl (s24 f) rfl ?_
  unfold right
  by_cases h0 : good f = true <;> by_cases h1 : 1 ≤ w <;> by_cases h2 : w ≤ 1099511627776 <;> simp -implicitDefEqProofs [body_eq, w_skip, w_ops, w_seq, w_cond, w_block, w_exit, w_ret, q_then_n, q_then_e, q_then_r, q_blk_n, q_blk_e, q_blk_r, q_ops, q_cont, q_end_n, q_end_r, q_end_e, q_loop_n, q_loop_e, q_loop_r, i_nil, i_p, i_e, i_call, i_when, t_nil, t_p, t_call, t_e, q_tcont, gsel, List.cons_append, List.nil_append, evalP, evalE, Opd.ev, Env.get, Env.set, Env.pick, putE, initEnv, evalBin, intBin, evalUn, evalConv, goneAll, goneOne, retV, resAll, Res.ev, tupOf, byVals, V.byVal, cx, newObj, St.place, St.push, St.spot, St.empty, V.cells, loadAt, faddrV, partOf, extractV, mkAgg, ofD, splice, St.setObj, fillV, h0, h1, h2]

theorem s30 (n : Int) : Dn.Call Γ cx 30 [U n] St.empty fun v _ => v = B false := by
  refine Dn.Call.body (fc := c30) rfl ?_
  simp -implicitDefEqProofs [body_eq, w_skip, w_ops, w_seq, w_cond, w_block, w_exit, w_ret, q_then_n, q_then_e, q_then_r, q_blk_n, q_blk_e, q_blk_r, q_ops, q_cont, q_end_n, q_end_r, q_end_e, q_loop_n, q_loop_e, q_loop_r, i_nil, i_p, i_e, i_call, i_when, t_nil, t_p, t_call, t_e, q_tcont, gsel, List.cons_append, List.nil_append, evalP, evalE, Opd.ev, Env.get, Env.set, Env.pick, putE, initEnv, evalBin, intBin, evalUn, evalConv, goneAll, goneOne, retV, resAll, Res.ev, tupOf, byVals, V.byVal, cx, newObj, St.place, St.push, St.spot, St.empty, V.cells, loadAt, faddrV, partOf, extractV, mkAgg, ofD, splice, St.setObj, fillV, c30]

def cmp3 (a b : Int) : Int := if a < b then -1 else if b < a then 1 else 0

theorem s28 (a b : Int) : Dn.Call Γ cx 28 [U a, U b] St.empty fun v _ => v = I (cmp3 a b) := by
  refine Dn.Call.body (fc := c28) rfl ?_
  simp -implicitDefEqProofs [body_eq, w_skip, w_ops, w_seq, w_cond, w_block, w_exit, w_ret, q_then_n, q_then_e, q_then_r, q_blk_n, q_blk_e, q_blk_r, q_ops, q_cont, q_end_n, q_end_r, q_end_e, q_loop_n, q_loop_e, q_loop_r, i_nil, i_p, i_e, i_call, i_when, t_nil, t_p, t_call, t_e, q_tcont, gsel, List.cons_append, List.nil_append, evalP, evalE, Opd.ev, Env.get, Env.set, Env.pick, putE, initEnv, evalBin, intBin, evalUn, evalConv, goneAll, goneOne, retV, resAll, Res.ev, tupOf, byVals, V.byVal, cx, newObj, St.place, St.push, St.spot, St.empty, V.cells, loadAt, faddrV, partOf, extractV, mkAgg, ofD, splice, St.setObj, fillV, c28]
  refine use_fn rfl rfl (s30 a) rfl ?_
  simp -implicitDefEqProofs [body_eq, w_skip, w_ops, w_seq, w_cond, w_block, w_exit, w_ret, q_then_n, q_then_e, q_then_r, q_blk_n, q_blk_e, q_blk_r, q_ops, q_cont, q_end_n, q_end_r, q_end_e, q_loop_n, q_loop_e, q_loop_r, i_nil, i_p, i_e, i_call, i_when, t_nil, t_p, t_call, t_e, q_tcont, gsel, List.cons_append, List.nil_append, evalP, evalE, Opd.ev, Env.get, Env.set, Env.pick, putE, initEnv, evalBin, intBin, evalUn, evalConv, goneAll, goneOne, retV, resAll, Res.ev, tupOf, byVals, V.byVal, cx, newObj, St.place, St.push, St.spot, St.empty, V.cells, loadAt, faddrV, partOf, extractV, mkAgg, ofD, splice, St.setObj, fillV]
  refine use_fn rfl rfl (s30 b) rfl ?_
  unfold cmp3
  by_cases h1 : a < b <;> by_cases h2 : b < a <;> simp -implicitDefEqProofs [body_eq, w_skip, w_ops, w_seq, w_cond, w_block, w_exit, w_ret, q_then_n, q_then_e, q_then_r, q_blk_n, q_blk_e, q_blk_r, q_ops, q_cont, q_end_n, q_end_r, q_end_e, q_loop_n, q_loop_e, q_loop_r, i_nil, i_p, i_e, i_call, i_when, t_nil, t_p, t_call, t_e, q_tcont, gsel, List.cons_append, List.nil_append, evalP, evalE, Opd.ev, Env.get, Env.set, Env.pick, putE, initEnv, evalBin, intBin, evalUn, evalConv, goneAll, goneOne, retV, resAll, Res.ev, tupOf, byVals, V.byVal, cx, newObj, St.place, St.push, St.spot, St.empty, V.cells, loadAt, faddrV, partOf, extractV, mkAgg, ofD, splice, St.setObj, fillV, h1, h2]

end Go.Proofs.Ytgpbkgfkmengaaa.T
