import Derived.Test.YtgpbkgfkmengaaaA3
import Derived.Laws.MathBits
import Derived.Laws.Bits64
namespace Go.Proofs.Ytgpbkgfkmengaaa.T
open Go.Dn
set_option linter.unusedSimpArgs false

theorem s29 (x y : Int) (hx0 : 0 ≤ x) (hx : x < 18446744073709551616) (hy0 : 0 ≤ y) (hy : y < 18446744073709551616) :
    Dn.Call Γ cx 29 [U x, U y] St.empty fun v _ => v = .tup [U (x * y / 18446744073709551616), U (x * y % 18446744073709551616)] := by
  refine Dn.Call.body (fc := c29) rfl ?_
  have hb : min (32 : Nat) IntKind.u64.bits = 32 := rfl
  simp -implicitDefEqProofs [body_eq, w_skip, w_ops, w_seq, w_cond, w_block, w_exit, w_ret, q_then_n, q_then_e, q_then_r, q_blk_n, q_blk_e, q_blk_r, q_ops, q_cont, q_end_n, q_end_r, q_end_e, q_loop_n, q_loop_e, q_loop_r, i_nil, i_p, i_e, i_call, i_when, t_nil, t_p, t_call, t_e, q_tcont, gsel, List.cons_append, List.nil_append, evalP, evalE, Opd.ev, Env.get, Env.set, Env.pick, putE, initEnv, evalBin, intBin, evalUn, evalConv, goneAll, goneOne, retV, resAll, Res.ev, tupOf, byVals, V.byVal, cx, newObj, St.place, St.push, St.spot, St.empty, V.cells, loadAt, faddrV, partOf, extractV, mkAgg, ofD, splice, St.setObj, fillV, c29, shiftBin, hb, IntKind.wrap_u64]
  rw [and_low32 x hx0 hx, and_low32 y hy0 hy, and_low32 _ (by omega) (by omega)]
  have h := mul64_arith x y hx0 hx hy0 hy
  simp only [Int.emod_add_emod, Int.add_emod_emod] at h ⊢
  exact h

theorem s26 (x y : Int) (hx0 : 0 ≤ x) (hx : x < 9223372036854775808) (hy0 : 0 ≤ y) (hy : y < 9223372036854775808) :
    Dn.Call Γ cx 26 [I x, I y] St.empty fun v _ => v = .tup [U (x * y / 18446744073709551616), U (x * y % 18446744073709551616)] := by
  refine Dn.Call.body (fc := c26) rfl ?_
  have e1 : x % 18446744073709551616 = x := by omega
  have e2 : y % 18446744073709551616 = y := by omega
  simp -implicitDefEqProofs [body_eq, w_skip, w_ops, w_seq, w_cond, w_block, w_exit, w_ret, q_then_n, q_then_e, q_then_r, q_blk_n, q_blk_e, q_blk_r, q_ops, q_cont, q_end_n, q_end_r, q_end_e, q_loop_n, q_loop_e, q_loop_r, i_nil, i_p, i_e, i_call, i_when, t_nil, t_p, t_call, t_e, q_tcont, gsel, List.cons_append, List.nil_append, evalP, evalE, Opd.ev, Env.get, Env.set, Env.pick, putE, initEnv, evalBin, intBin, evalUn, evalConv, goneAll, goneOne, retV, resAll, Res.ev, tupOf, byVals, V.byVal, cx, newObj, St.place, St.push, St.spot, St.empty, V.cells, loadAt, faddrV, partOf, extractV, mkAgg, ofD, splice, St.setObj, fillV, c26, IntKind.wrap_u64, e1, e2]
  refine use_fn rfl rfl (s29 x y hx0 (by omega) hy0 (by omega)) rfl ?_
  simp -implicitDefEqProofs [body_eq, w_skip, w_ops, w_seq, w_cond, w_block, w_exit, w_ret, q_then_n, q_then_e, q_then_r, q_blk_n, q_blk_e, q_blk_r, q_ops, q_cont, q_end_n, q_end_r, q_end_e, q_loop_n, q_loop_e, q_loop_r, i_nil, i_p, i_e, i_call, i_when, t_nil, t_p, t_call, t_e, q_tcont, gsel, List.cons_append, List.nil_append, evalP, evalE, Opd.ev, Env.get, Env.set, Env.pick, putE, initEnv, evalBin, intBin, evalUn, evalConv, goneAll, goneOne, retV, resAll, Res.ev, tupOf, byVals, V.byVal, cx, newObj, St.place, St.push, St.spot, St.empty, V.cells, loadAt, faddrV, partOf, extractV, mkAgg, ofD, splice, St.setObj, fillV]

theorem s27 (a b : Int) : Dn.Call Γ cx 27 [.d (.list [[.int .i64 a], [.int .i64 b]])] St.empty fun v _ => v = I (if a = 0 then b else a) := by
  refine Dn.Call.body (fc := c27) rfl ?_
  have u1 : IntKind.i64.wrap 1 = 1 := wrap64 (by omega) (by omega)
  have u2 : IntKind.i64.wrap 2 = 2 := wrap64 (by omega) (by omega)
  simp -implicitDefEqProofs [body_eq, w_skip, w_ops, w_seq, w_cond, w_block, w_exit, w_ret, q_then_n, q_then_e, q_then_r, q_blk_n, q_blk_e, q_blk_r, q_ops, q_cont, q_end_n, q_end_r, q_end_e, q_loop_n, q_loop_e, q_loop_r, i_nil, i_p, i_e, i_call, i_when, t_nil, t_p, t_call, t_e, q_tcont, gsel, List.cons_append, List.nil_append, evalP, evalE, Opd.ev, Env.get, Env.set, Env.pick, putE, initEnv, evalBin, intBin, evalUn, evalConv, goneAll, goneOne, retV, resAll, Res.ev, tupOf, byVals, V.byVal, cx, newObj, St.place, St.push, St.spot, St.empty, V.cells, loadAt, faddrV, partOf, extractV, mkAgg, ofD, splice, St.setObj, fillV, c27, lenT, lenV]
  refine wround ?_
  by_cases h1 : a = 0
  · simp -implicitDefEqProofs [body_eq, w_skip, w_ops, w_seq, w_cond, w_block, w_exit, w_ret, q_then_n, q_then_e, q_then_r, q_blk_n, q_blk_e, q_blk_r, q_ops, q_cont, q_end_n, q_end_r, q_end_e, q_loop_n, q_loop_e, q_loop_r, i_nil, i_p, i_e, i_call, i_when, t_nil, t_p, t_call, t_e, q_tcont, gsel, List.cons_append, List.nil_append, evalP, evalE, Opd.ev, Env.get, Env.set, Env.pick, putE, initEnv, evalBin, intBin, evalUn, evalConv, goneAll, goneOne, retV, resAll, Res.ev, tupOf, byVals, V.byVal, cx, newObj, St.place, St.push, St.spot, St.empty, V.cells, loadAt, faddrV, partOf, extractV, mkAgg, ofD, splice, St.setObj, fillV, c27_l0, iaddrV, asIdx, V.rows, h1, u1]
    refine wround ?_
    by_cases h2 : b = 0
    · simp -implicitDefEqProofs [body_eq, w_skip, w_ops, w_seq, w_cond, w_block, w_exit, w_ret, q_then_n, q_then_e, q_then_r, q_blk_n, q_blk_e, q_blk_r, q_ops, q_cont, q_end_n, q_end_r, q_end_e, q_loop_n, q_loop_e, q_loop_r, i_nil, i_p, i_e, i_call, i_when, t_nil, t_p, t_call, t_e, q_tcont, gsel, List.cons_append, List.nil_append, evalP, evalE, Opd.ev, Env.get, Env.set, Env.pick, putE, initEnv, evalBin, intBin, evalUn, evalConv, goneAll, goneOne, retV, resAll, Res.ev, tupOf, byVals, V.byVal, cx, newObj, St.place, St.push, St.spot, St.empty, V.cells, loadAt, faddrV, partOf, extractV, mkAgg, ofD, splice, St.setObj, fillV, c27_l0, iaddrV, asIdx, V.rows, h2, u2]
      refine wround ?_
      simp -implicitDefEqProofs [body_eq, w_skip, w_ops, w_seq, w_cond, w_block, w_exit, w_ret, q_then_n, q_then_e, q_then_r, q_blk_n, q_blk_e, q_blk_r, q_ops, q_cont, q_end_n, q_end_r, q_end_e, q_loop_n, q_loop_e, q_loop_r, i_nil, i_p, i_e, i_call, i_when, t_nil, t_p, t_call, t_e, q_tcont, gsel, List.cons_append, List.nil_append, evalP, evalE, Opd.ev, Env.get, Env.set, Env.pick, putE, initEnv, evalBin, intBin, evalUn, evalConv, goneAll, goneOne, retV, resAll, Res.ev, tupOf, byVals, V.byVal, cx, newObj, St.place, St.push, St.spot, St.empty, V.cells, loadAt, faddrV, partOf, extractV, mkAgg, ofD, splice, St.setObj, fillV, c27_l0]
    · simp -implicitDefEqProofs [body_eq, w_skip, w_ops, w_seq, w_cond, w_block, w_exit, w_ret, q_then_n, q_then_e, q_then_r, q_blk_n, q_blk_e, q_blk_r, q_ops, q_cont, q_end_n, q_end_r, q_end_e, q_loop_n, q_loop_e, q_loop_r, i_nil, i_p, i_e, i_call, i_when, t_nil, t_p, t_call, t_e, q_tcont, gsel, List.cons_append, List.nil_append, evalP, evalE, Opd.ev, Env.get, Env.set, Env.pick, putE, initEnv, evalBin, intBin, evalUn, evalConv, goneAll, goneOne, retV, resAll, Res.ev, tupOf, byVals, V.byVal, cx, newObj, St.place, St.push, St.spot, St.empty, V.cells, loadAt, faddrV, partOf, extractV, mkAgg, ofD, splice, St.setObj, fillV, c27_l0, iaddrV, asIdx, V.rows, h2]
  · simp -implicitDefEqProofs [body_eq, w_skip, w_ops, w_seq, w_cond, w_block, w_exit, w_ret, q_then_n, q_then_e, q_then_r, q_blk_n, q_blk_e, q_blk_r, q_ops, q_cont, q_end_n, q_end_r, q_end_e, q_loop_n, q_loop_e, q_loop_r, i_nil, i_p, i_e, i_call, i_when, t_nil, t_p, t_call, t_e, q_tcont, gsel, List.cons_append, List.nil_append, evalP, evalE, Opd.ev, Env.get, Env.set, Env.pick, putE, initEnv, evalBin, intBin, evalUn, evalConv, goneAll, goneOne, retV, resAll, Res.ev, tupOf, byVals, V.byVal, cx, newObj, St.place, St.push, St.spot, St.empty, V.cells, loadAt, faddrV, partOf, extractV, mkAgg, ofD, splice, St.setObj, fillV, c27_l0, iaddrV, asIdx, V.rows, h1]

theorem right_inv {f w : Int} (h : right f w = true) : 0 ≤ f ∧ f ≤ 2100000000000000 ∧ 1 ≤ w ∧ w ≤ 1099511627776 := by
  simp [right, good] at h
  omega

theorem cmp_or (m n : Int) : (if cmp3 (m / 18446744073709551616) (n / 18446744073709551616) = 0 then cmp3 (m % 18446744073709551616) (n % 18446744073709551616) else cmp3 (m / 18446744073709551616) (n / 18446744073709551616)) = cmp3 m n := by
  unfold cmp3
  by_cases h1 : m / 18446744073709551616 < n / 18446744073709551616
  · simp [h1, show m < n by omega]
  · by_cases h2 : n / 18446744073709551616 < m / 18446744073709551616
    · simp [h1, h2, show ¬ m < n by omega, show n < m by omega]
    · by_cases h3 : m % 18446744073709551616 < n % 18446744073709551616
      · simp [h1, h2, h3, show m < n by omega]
      · by_cases h4 : n % 18446744073709551616 < m % 18446744073709551616
        · simp [h1, h2, h3, h4, show ¬ m < n by omega, show n < m by omega]
        · simp [h1, h2, h3, h4, show ¬ m < n by omega, show ¬ n < m by omega]

def comp (f w f' w' : Int) : Int := if right f w && right f' w' then cmp3 (f * w') (f' * w) else 0

theorem s12 (f w f' w' : Int) : Dn.Call Γ cx 12 [rate f w, rate f' w'] St.empty fun v _ => v = I (comp f w f' w') := by
  refine Dn.Call.body (fc := c12) rfl ?_
  simp -implicitDefEqProofs [body_eq, w_skip, w_ops, w_seq, w_cond, w_block, w_exit, w_ret, q_then_n, q_then_e, q_then_r, q_blk_n, q_blk_e, q_blk_r, q_ops, q_cont, q_end_n, q_end_r, q_end_e, q_loop_n, q_loop_e, q_loop_r, i_nil, i_p, i_e, i_call, i_when, t_nil, t_p, t_call, t_e, q_tcont, gsel, List.cons_append, List.nil_append, evalP, evalE, Opd.ev, Env.get, Env.set, Env.pick, putE, initEnv, evalBin, intBin, evalUn, evalConv, goneAll, goneOne, retV, resAll, Res.ev, tupOf, byVals, V.byVal, cx, newObj, St.place, St.push, St.spot, St.empty, V.cells, loadAt, faddrV, partOf, extractV, mkAgg, ofD, splice, St.setObj, fillV, c12]
  refine use_fn rfl rfl (s10 f w) rfl ?_
  by_cases h1 : right f w = true
  · simp -implicitDefEqProofs [body_eq, w_skip, w_ops, w_seq, w_cond, w_block, w_exit, w_ret, q_then_n, q_then_e, q_then_r, q_blk_n, q_blk_e, q_blk_r, q_ops, q_cont, q_end_n, q_end_r, q_end_e, q_loop_n, q_loop_e, q_loop_r, i_nil, i_p, i_e, i_call, i_when, t_nil, t_p, t_call, t_e, q_tcont, gsel, List.cons_append, List.nil_append, evalP, evalE, Opd.ev, Env.get, Env.set, Env.pick, putE, initEnv, evalBin, intBin, evalUn, evalConv, goneAll, goneOne, retV, resAll, Res.ev, tupOf, byVals, V.byVal, cx, newObj, St.place, St.push, St.spot, St.empty, V.cells, loadAt, faddrV, partOf, extractV, mkAgg, ofD, splice, St.setObj, fillV, h1]
    refine use_fn rfl rfl (s10 f' w') rfl ?_
    by_cases h2 : right f' w' = true
    · obtain ⟨a1, a2, a3, a4⟩ := right_inv h1
      obtain ⟨b1, b2, b3, b4⟩ := right_inv h2
      simp -implicitDefEqProofs [body_eq, w_skip, w_ops, w_seq, w_cond, w_block, w_exit, w_ret, q_then_n, q_then_e, q_then_r, q_blk_n, q_blk_e, q_blk_r, q_ops, q_cont, q_end_n, q_end_r, q_end_e, q_loop_n, q_loop_e, q_loop_r, i_nil, i_p, i_e, i_call, i_when, t_nil, t_p, t_call, t_e, q_tcont, gsel, List.cons_append, List.nil_append, evalP, evalE, Opd.ev, Env.get, Env.set, Env.pick, putE, initEnv, evalBin, intBin, evalUn, evalConv, goneAll, goneOne, retV, resAll, Res.ev, tupOf, byVals, V.byVal, cx, newObj, St.place, St.push, St.spot, St.empty, V.cells, loadAt, faddrV, partOf, extractV, mkAgg, ofD, splice, St.setObj, fillV, h2]
      refine use_fn rfl rfl (s26 f w' (by omega) (by omega) (by omega) (by omega)) rfl ?_
      simp -implicitDefEqProofs [body_eq, w_skip, w_ops, w_seq, w_cond, w_block, w_exit, w_ret, q_then_n, q_then_e, q_then_r, q_blk_n, q_blk_e, q_blk_r, q_ops, q_cont, q_end_n, q_end_r, q_end_e, q_loop_n, q_loop_e, q_loop_r, i_nil, i_p, i_e, i_call, i_when, t_nil, t_p, t_call, t_e, q_tcont, gsel, List.cons_append, List.nil_append, evalP, evalE, Opd.ev, Env.get, Env.set, Env.pick, putE, initEnv, evalBin, intBin, evalUn, evalConv, goneAll, goneOne, retV, resAll, Res.ev, tupOf, byVals, V.byVal, cx, newObj, St.place, St.push, St.spot, St.empty, V.cells, loadAt, faddrV, partOf, extractV, mkAgg, ofD, splice, St.setObj, fillV]
      refine use_fn rfl rfl (s26 f' w (by omega) (by omega) (by omega) (by omega)) rfl ?_
      simp -implicitDefEqProofs [body_eq, w_skip, w_ops, w_seq, w_cond, w_block, w_exit, w_ret, q_then_n, q_then_e, q_then_r, q_blk_n, q_blk_e, q_blk_r, q_ops, q_cont, q_end_n, q_end_r, q_end_e, q_loop_n, q_loop_e, q_loop_r, i_nil, i_p, i_e, i_call, i_when, t_nil, t_p, t_call, t_e, q_tcont, gsel, List.cons_append, List.nil_append, evalP, evalE, Opd.ev, Env.get, Env.set, Env.pick, putE, initEnv, evalBin, intBin, evalUn, evalConv, goneAll, goneOne, retV, resAll, Res.ev, tupOf, byVals, V.byVal, cx, newObj, St.place, St.push, St.spot, St.empty, V.cells, loadAt, faddrV, partOf, extractV, mkAgg, ofD, splice, St.setObj, fillV]
      refine use_fn rfl rfl (s28 _ _) rfl ?_
      simp -implicitDefEqProofs [body_eq, w_skip, w_ops, w_seq, w_cond, w_block, w_exit, w_ret, q_then_n, q_then_e, q_then_r, q_blk_n, q_blk_e, q_blk_r, q_ops, q_cont, q_end_n, q_end_r, q_end_e, q_loop_n, q_loop_e, q_loop_r, i_nil, i_p, i_e, i_call, i_when, t_nil, t_p, t_call, t_e, q_tcont, gsel, List.cons_append, List.nil_append, evalP, evalE, Opd.ev, Env.get, Env.set, Env.pick, putE, initEnv, evalBin, intBin, evalUn, evalConv, goneAll, goneOne, retV, resAll, Res.ev, tupOf, byVals, V.byVal, cx, newObj, St.place, St.push, St.spot, St.empty, V.cells, loadAt, faddrV, partOf, extractV, mkAgg, ofD, splice, St.setObj, fillV]
      refine use_fn rfl rfl (s28 _ _) rfl ?_
      simp -implicitDefEqProofs [body_eq, w_skip, w_ops, w_seq, w_cond, w_block, w_exit, w_ret, q_then_n, q_then_e, q_then_r, q_blk_n, q_blk_e, q_blk_r, q_ops, q_cont, q_end_n, q_end_r, q_end_e, q_loop_n, q_loop_e, q_loop_r, i_nil, i_p, i_e, i_call, i_when, t_nil, t_p, t_call, t_e, q_tcont, gsel, List.cons_append, List.nil_append, evalP, evalE, Opd.ev, Env.get, Env.set, Env.pick, putE, initEnv, evalBin, intBin, evalUn, evalConv, goneAll, goneOne, retV, resAll, Res.ev, tupOf, byVals, V.byVal, cx, newObj, St.place, St.push, St.spot, St.empty, V.cells, loadAt, faddrV, partOf, extractV, mkAgg, ofD, splice, St.setObj, fillV, repl, rowsOf]
      refine use_fn rfl rfl (s27 _ _) rfl ?_
      simp -implicitDefEqProofs [body_eq, w_skip, w_ops, w_seq, w_cond, w_block, w_exit, w_ret, q_then_n, q_then_e, q_then_r, q_blk_n, q_blk_e, q_blk_r, q_ops, q_cont, q_end_n, q_end_r, q_end_e, q_loop_n, q_loop_e, q_loop_r, i_nil, i_p, i_e, i_call, i_when, t_nil, t_p, t_call, t_e, q_tcont, gsel, List.cons_append, List.nil_append, evalP, evalE, Opd.ev, Env.get, Env.set, Env.pick, putE, initEnv, evalBin, intBin, evalUn, evalConv, goneAll, goneOne, retV, resAll, Res.ev, tupOf, byVals, V.byVal, cx, newObj, St.place, St.push, St.spot, St.empty, V.cells, loadAt, faddrV, partOf, extractV, mkAgg, ofD, splice, St.setObj, fillV, comp, h1, h2]
      exact cmp_or _ _
    · simp -implicitDefEqProofs [body_eq, w_skip, w_ops, w_seq, w_cond, w_block, w_exit, w_ret, q_then_n, q_then_e, q_then_r, q_blk_n, q_blk_e, q_blk_r, q_ops, q_cont, q_end_n, q_end_r, q_end_e, q_loop_n, q_loop_e, q_loop_r, i_nil, i_p, i_e, i_call, i_when, t_nil, t_p, t_call, t_e, q_tcont, gsel, List.cons_append, List.nil_append, evalP, evalE, Opd.ev, Env.get, Env.set, Env.pick, putE, initEnv, evalBin, intBin, evalUn, evalConv, goneAll, goneOne, retV, resAll, Res.ev, tupOf, byVals, V.byVal, cx, newObj, St.place, St.push, St.spot, St.empty, V.cells, loadAt, faddrV, partOf, extractV, mkAgg, ofD, splice, St.setObj, fillV, comp, h1, h2]
  · simp -implicitDefEqProofs [body_eq, w_skip, w_ops, w_seq, w_cond, w_block, w_exit, w_ret, q_then_n, q_then_e, q_then_r, q_blk_n, q_blk_e, q_blk_r, q_ops, q_cont, q_end_n, q_end_r, q_end_e, q_loop_n, q_loop_e, q_loop_r, i_nil, i_p, i_e, i_call, i_when, t_nil, t_p, t_call, t_e, q_tcont, gsel, List.cons_append, List.nil_append, evalP, evalE, Opd.ev, Env.get, Env.set, Env.pick, putE, initEnv, evalBin, intBin, evalUn, evalConv, goneAll, goneOne, retV, resAll, Res.ev, tupOf, byVals, V.byVal, cx, newObj, St.place, St.push, St.spot, St.empty, V.cells, loadAt, faddrV, partOf, extractV, mkAgg, ofD, splice, St.setObj, fillV, comp, h1]

theorem s7 : Dn.Call Γ cx 7 [] St.empty fun v _ => v = B true := by
  refine Dn.Call.body (fc := c7) rfl ?_
  simp -implicitDefEqProofs [body_eq, w_skip, w_ops, w_seq, w_cond, w_block, w_exit, w_ret, q_then_n, q_then_e, q_then_r, q_blk_n, q_blk_e, q_blk_r, q_ops, q_cont, q_end_n, q_end_r, q_end_e, q_loop_n, q_loop_e, q_loop_r, i_nil, i_p, i_e, i_call, i_when, t_nil, t_p, t_call, t_e, q_tcont, gsel, List.cons_append, List.nil_append, evalP, evalE, Opd.ev, Env.get, Env.set, Env.pick, putE, initEnv, evalBin, intBin, evalUn, evalConv, goneAll, goneOne, retV, resAll, Res.ev, tupOf, byVals, V.byVal, cx, newObj, St.place, St.push, St.spot, St.empty, V.cells, loadAt, faddrV, partOf, extractV, mkAgg, ofD, splice, St.setObj, fillV, c7]
  refine use_fn rfl rfl (s12 1 3 2 5) rfl ?_
  have : comp 1 3 2 5 = -1 := by decide
  simp -implicitDefEqProofs [body_eq, w_skip, w_ops, w_seq, w_cond, w_block, w_exit, w_ret, q_then_n, q_then_e, q_then_r, q_blk_n, q_blk_e, q_blk_r, q_ops, q_cont, q_end_n, q_end_r, q_end_e, q_loop_n, q_loop_e, q_loop_r, i_nil, i_p, i_e, i_call, i_when, t_nil, t_p, t_call, t_e, q_tcont, gsel, List.cons_append, List.nil_append, evalP, evalE, Opd.ev, Env.get, Env.set, Env.pick, putE, initEnv, evalBin, intBin, evalUn, evalConv, goneAll, goneOne, retV, resAll, Res.ev, tupOf, byVals, V.byVal, cx, newObj, St.place, St.push, St.spot, St.empty, V.cells, loadAt, faddrV, partOf, extractV, mkAgg, ofD, splice, St.setObj, fillV, this]
  refine use_fn rfl rfl (s23 0) rfl ?_
  simp -implicitDefEqProofs [body_eq, w_skip, w_ops, w_seq, w_cond, w_block, w_exit, w_ret, q_then_n, q_then_e, q_then_r, q_blk_n, q_blk_e, q_blk_r, q_ops, q_cont, q_end_n, q_end_r, q_end_e, q_loop_n, q_loop_e, q_loop_r, i_nil, i_p, i_e, i_call, i_when, t_nil, t_p, t_call, t_e, q_tcont, gsel, List.cons_append, List.nil_append, evalP, evalE, Opd.ev, Env.get, Env.set, Env.pick, putE, initEnv, evalBin, intBin, evalUn, evalConv, goneAll, goneOne, retV, resAll, Res.ev, tupOf, byVals, V.byVal, cx, newObj, St.place, St.push, St.spot, St.empty, V.cells, loadAt, faddrV, partOf, extractV, mkAgg, ofD, splice, St.setObj, fillV, good]

end Go.Proofs.Ytgpbkgfkmengaaa.T
