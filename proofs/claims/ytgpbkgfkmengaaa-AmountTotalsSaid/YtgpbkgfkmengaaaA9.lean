import Derived.Test.YtgpbkgfkmengaaaA8
namespace Go.Proofs.Ytgpbkgfkmengaaa.T
open Go.Dn
set_option linter.unusedSimpArgs false

/-- What the continued division holds to. -/
def Inv13 (r : Int) (m : Nat) (e : Env) (σ : St) : Prop := ∃ (x y u v sg : Int) (z : V) (l : List Dn.Obj), e = [(5, I x), (6, I y), (7, I u), (8, I v), (9, I sg), (54, z)] ∧ σ = ⟨l, []⟩ ∧ 0 ≤ x ∧ x ≤ 2100000000000000 ∧ 0 < y ∧ y ≤ 2100000000000000 ∧ 0 ≤ u ∧ u ≤ 2100000000000000 ∧ 0 < v ∧ v ≤ 2100000000000000 ∧
  (sg = 1 ∨ sg = -1) ∧ sg * cmp3 (x * v) (u * y) = r ∧ m = y.toNat

theorem tq {a b : Int} (ha : 0 ≤ a) (ha2 : a ≤ 2100000000000000) (hb : 0 < b) : IntKind.i64.wrap (a.tdiv b) = a / b := by
  rw [Int.tdiv_eq_ediv_of_nonneg ha]
  have h1 := Int.ediv_nonneg ha (by omega : 0 ≤ b)
  have h2 := Int.ediv_le_self b ha
  exact wrap64 (by omega) (by omega)

theorem cmp3_lt {a b : Int} (h : a < b) : cmp3 a b = -1 := by simp [cmp3, h]
theorem cmp3_gt {a b : Int} (h : b < a) : cmp3 a b = 1 := by simp [cmp3, h, show ¬ a < b by omega]
theorem cmp3_eq {a b : Int} (h : a = b) : cmp3 a b = 0 := by simp [cmp3, h]
theorem cmp3_sub {a b c d : Int} (h : a - b = c - d) : cmp3 a b = cmp3 c d := by
  rcases Int.lt_trichotomy a b with h1 | h1 | h1
  · rw [cmp3_lt h1, cmp3_lt (by omega)]
  · rw [cmp3_eq h1, cmp3_eq (by omega)]
  · rw [cmp3_gt h1, cmp3_gt (by omega)]

theorem round13 (r : Int) (Q : PostC) (hQ : ∀ σ, Q .ret [(4, I r)] σ) : ∀ (m : Nat) (e : Env) (σ : St), Inv13 r m e σ → wcode (Dn.Call Γ cx) cx c13_l0 e σ (loopQ (Inv13 r) m [5, 6, 7, 8, 9, 54] Q) := by
  rintro m e σ ⟨x, y, u, v, sg, z, l, rfl, rfl, x0, x1, y0, y1, u0, u1, v0, v1, hsg, hr, rfl⟩
  have ny : y ≠ 0 := by omega
  have nv : v ≠ 0 := by omega
  have qx := tq x0 x1 y0
  have qu := tq u0 u1 v0
  have tx : x.tmod y = x % y := Int.tmod_eq_emod_of_nonneg x0
  have tu : u.tmod v = u % v := Int.tmod_eq_emod_of_nonneg u0
  have wsg : IntKind.i64.wrap (-sg) = -sg := wrap64 (by omega) (by omega)
  rcases Int.lt_trichotomy (x / y) (u / v) with h | h | h
  · rw [cmp3_lt (div_lt y0 v0 h)] at hr
    have hne : ¬ x / y = u / v := by omega
    simp -implicitDefEqProofs [body_eq, w_skip, w_ops, w_seq, w_cond, w_block, w_exit, w_ret, q_then_n, q_then_e, q_then_r, q_blk_n, q_blk_e, q_blk_r, q_ops, q_cont, q_end_n, q_end_r, q_end_e, q_loop_n, q_loop_e, q_loop_r, i_nil, i_p, i_e, i_call, i_when, t_nil, t_p, t_call, t_e, q_tcont, gsel, List.cons_append, List.nil_append, evalP, evalE, Opd.ev, Env.get, Env.set, Env.pick, putE, initEnv, evalBin, intBin, evalUn, evalConv, goneAll, goneOne, retV, resAll, Res.ev, tupOf, byVals, V.byVal, cx, newObj, St.place, St.push, St.spot, St.empty, V.cells, loadAt, faddrV, partOf, extractV, mkAgg, ofD, splice, St.setObj, fillV, c13_l0]
    refine w_drw (by decide +kernel) ?_
    simp -implicitDefEqProofs [body_eq, w_skip, w_ops, w_seq, w_cond, w_block, w_exit, w_ret, q_then_n, q_then_e, q_then_r, q_blk_n, q_blk_e, q_blk_r, q_ops, q_cont, q_end_n, q_end_r, q_end_e, q_loop_n, q_loop_e, q_loop_r, i_nil, i_p, i_e, i_call, i_when, t_nil, t_p, t_call, t_e, q_tcont, gsel, List.cons_append, List.nil_append, evalP, evalE, Opd.ev, Env.get, Env.set, Env.pick, putE, initEnv, evalBin, intBin, evalUn, evalConv, goneAll, goneOne, retV, resAll, Res.ev, tupOf, byVals, V.byVal, cx, newObj, St.place, St.push, St.spot, St.empty, V.cells, loadAt, faddrV, partOf, extractV, mkAgg, ofD, splice, St.setObj, fillV, St.room, ny, nv, qx, qu, hne]
    refine w_drw (by decide +kernel) ?_
    simp -implicitDefEqProofs [body_eq, w_skip, w_ops, w_seq, w_cond, w_block, w_exit, w_ret, q_then_n, q_then_e, q_then_r, q_blk_n, q_blk_e, q_blk_r, q_ops, q_cont, q_end_n, q_end_r, q_end_e, q_loop_n, q_loop_e, q_loop_r, i_nil, i_p, i_e, i_call, i_when, t_nil, t_p, t_call, t_e, q_tcont, gsel, List.cons_append, List.nil_append, evalP, evalE, Opd.ev, Env.get, Env.set, Env.pick, putE, initEnv, evalBin, intBin, evalUn, evalConv, goneAll, goneOne, retV, resAll, Res.ev, tupOf, byVals, V.byVal, cx, newObj, St.place, St.push, St.spot, St.empty, V.cells, loadAt, faddrV, partOf, extractV, mkAgg, ofD, splice, St.setObj, fillV, St.room, ny, nv, qx, qu, hne, h, wsg]
    have : -sg = r := by omega
    rw [this]
    exact hQ _
  · have hd := div_eq h
    rw [cmp3_sub hd] at hr
    have rx0 := Int.emod_nonneg x ny
    have ru0 := Int.emod_nonneg u nv
    have rx1 := Int.emod_lt_of_pos x y0
    have ru1 := Int.emod_lt_of_pos u v0
    by_cases ex : x % y = 0
    · by_cases eu : u % v = 0
      · simp -implicitDefEqProofs [body_eq, w_skip, w_ops, w_seq, w_cond, w_block, w_exit, w_ret, q_then_n, q_then_e, q_then_r, q_blk_n, q_blk_e, q_blk_r, q_ops, q_cont, q_end_n, q_end_r, q_end_e, q_loop_n, q_loop_e, q_loop_r, i_nil, i_p, i_e, i_call, i_when, t_nil, t_p, t_call, t_e, q_tcont, gsel, List.cons_append, List.nil_append, evalP, evalE, Opd.ev, Env.get, Env.set, Env.pick, putE, initEnv, evalBin, intBin, evalUn, evalConv, goneAll, goneOne, retV, resAll, Res.ev, tupOf, byVals, V.byVal, cx, newObj, St.place, St.push, St.spot, St.empty, V.cells, loadAt, faddrV, partOf, extractV, mkAgg, ofD, splice, St.setObj, fillV, c13_l0]
        refine w_drw (by decide +kernel) ?_
        simp -implicitDefEqProofs [body_eq, w_skip, w_ops, w_seq, w_cond, w_block, w_exit, w_ret, q_then_n, q_then_e, q_then_r, q_blk_n, q_blk_e, q_blk_r, q_ops, q_cont, q_end_n, q_end_r, q_end_e, q_loop_n, q_loop_e, q_loop_r, i_nil, i_p, i_e, i_call, i_when, t_nil, t_p, t_call, t_e, q_tcont, gsel, List.cons_append, List.nil_append, evalP, evalE, Opd.ev, Env.get, Env.set, Env.pick, putE, initEnv, evalBin, intBin, evalUn, evalConv, goneAll, goneOne, retV, resAll, Res.ev, tupOf, byVals, V.byVal, cx, newObj, St.place, St.push, St.spot, St.empty, V.cells, loadAt, faddrV, partOf, extractV, mkAgg, ofD, splice, St.setObj, fillV, St.room, ny, nv, qx, qu, h, tx, tu, ex, eu]
        rw [ex, eu, cmp3_eq (by simp)] at hr
        have : (0 : Int) = r := by omega
        rw [this]
        exact hQ _
      · simp -implicitDefEqProofs [body_eq, w_skip, w_ops, w_seq, w_cond, w_block, w_exit, w_ret, q_then_n, q_then_e, q_then_r, q_blk_n, q_blk_e, q_blk_r, q_ops, q_cont, q_end_n, q_end_r, q_end_e, q_loop_n, q_loop_e, q_loop_r, i_nil, i_p, i_e, i_call, i_when, t_nil, t_p, t_call, t_e, q_tcont, gsel, List.cons_append, List.nil_append, evalP, evalE, Opd.ev, Env.get, Env.set, Env.pick, putE, initEnv, evalBin, intBin, evalUn, evalConv, goneAll, goneOne, retV, resAll, Res.ev, tupOf, byVals, V.byVal, cx, newObj, St.place, St.push, St.spot, St.empty, V.cells, loadAt, faddrV, partOf, extractV, mkAgg, ofD, splice, St.setObj, fillV, c13_l0]
        refine w_drw (by decide +kernel) ?_
        simp -implicitDefEqProofs [body_eq, w_skip, w_ops, w_seq, w_cond, w_block, w_exit, w_ret, q_then_n, q_then_e, q_then_r, q_blk_n, q_blk_e, q_blk_r, q_ops, q_cont, q_end_n, q_end_r, q_end_e, q_loop_n, q_loop_e, q_loop_r, i_nil, i_p, i_e, i_call, i_when, t_nil, t_p, t_call, t_e, q_tcont, gsel, List.cons_append, List.nil_append, evalP, evalE, Opd.ev, Env.get, Env.set, Env.pick, putE, initEnv, evalBin, intBin, evalUn, evalConv, goneAll, goneOne, retV, resAll, Res.ev, tupOf, byVals, V.byVal, cx, newObj, St.place, St.push, St.spot, St.empty, V.cells, loadAt, faddrV, partOf, extractV, mkAgg, ofD, splice, St.setObj, fillV, St.room, ny, nv, qx, qu, h, tx, tu, ex, eu, wsg]
        have hp : 0 < u % v * y := Int.mul_pos (by omega) y0
        rw [ex, cmp3_lt (by omega)] at hr
        have : -sg = r := by omega
        rw [this]
        exact hQ _
    · by_cases eu : u % v = 0
      · simp -implicitDefEqProofs [body_eq, w_skip, w_ops, w_seq, w_cond, w_block, w_exit, w_ret, q_then_n, q_then_e, q_then_r, q_blk_n, q_blk_e, q_blk_r, q_ops, q_cont, q_end_n, q_end_r, q_end_e, q_loop_n, q_loop_e, q_loop_r, i_nil, i_p, i_e, i_call, i_when, t_nil, t_p, t_call, t_e, q_tcont, gsel, List.cons_append, List.nil_append, evalP, evalE, Opd.ev, Env.get, Env.set, Env.pick, putE, initEnv, evalBin, intBin, evalUn, evalConv, goneAll, goneOne, retV, resAll, Res.ev, tupOf, byVals, V.byVal, cx, newObj, St.place, St.push, St.spot, St.empty, V.cells, loadAt, faddrV, partOf, extractV, mkAgg, ofD, splice, St.setObj, fillV, c13_l0]
        refine w_drw (by decide +kernel) ?_
        simp -implicitDefEqProofs [body_eq, w_skip, w_ops, w_seq, w_cond, w_block, w_exit, w_ret, q_then_n, q_then_e, q_then_r, q_blk_n, q_blk_e, q_blk_r, q_ops, q_cont, q_end_n, q_end_r, q_end_e, q_loop_n, q_loop_e, q_loop_r, i_nil, i_p, i_e, i_call, i_when, t_nil, t_p, t_call, t_e, q_tcont, gsel, List.cons_append, List.nil_append, evalP, evalE, Opd.ev, Env.get, Env.set, Env.pick, putE, initEnv, evalBin, intBin, evalUn, evalConv, goneAll, goneOne, retV, resAll, Res.ev, tupOf, byVals, V.byVal, cx, newObj, St.place, St.push, St.spot, St.empty, V.cells, loadAt, faddrV, partOf, extractV, mkAgg, ofD, splice, St.setObj, fillV, St.room, ny, nv, qx, qu, h, tx, tu, ex, eu]
        have hp : 0 < x % y * v := Int.mul_pos (by omega) v0
        rw [eu, cmp3_gt (by omega)] at hr
        have : sg = r := by omega
        rw [this]
        exact hQ _
      · simp -implicitDefEqProofs [body_eq, w_skip, w_ops, w_seq, w_cond, w_block, w_exit, w_ret, q_then_n, q_then_e, q_then_r, q_blk_n, q_blk_e, q_blk_r, q_ops, q_cont, q_end_n, q_end_r, q_end_e, q_loop_n, q_loop_e, q_loop_r, i_nil, i_p, i_e, i_call, i_when, t_nil, t_p, t_call, t_e, q_tcont, gsel, List.cons_append, List.nil_append, evalP, evalE, Opd.ev, Env.get, Env.set, Env.pick, putE, initEnv, evalBin, intBin, evalUn, evalConv, goneAll, goneOne, retV, resAll, Res.ev, tupOf, byVals, V.byVal, cx, newObj, St.place, St.push, St.spot, St.empty, V.cells, loadAt, faddrV, partOf, extractV, mkAgg, ofD, splice, St.setObj, fillV, c13_l0]
        refine w_drw (by decide +kernel) ?_
        simp -implicitDefEqProofs [body_eq, w_skip, w_ops, w_seq, w_cond, w_block, w_exit, w_ret, q_then_n, q_then_e, q_then_r, q_blk_n, q_blk_e, q_blk_r, q_ops, q_cont, q_end_n, q_end_r, q_end_e, q_loop_n, q_loop_e, q_loop_r, i_nil, i_p, i_e, i_call, i_when, t_nil, t_p, t_call, t_e, q_tcont, gsel, List.cons_append, List.nil_append, evalP, evalE, Opd.ev, Env.get, Env.set, Env.pick, putE, initEnv, evalBin, intBin, evalUn, evalConv, goneAll, goneOne, retV, resAll, Res.ev, tupOf, byVals, V.byVal, cx, newObj, St.place, St.push, St.spot, St.empty, V.cells, loadAt, faddrV, partOf, extractV, mkAgg, ofD, splice, St.setObj, fillV, St.room, ny, nv, qx, qu, h, tx, tu, ex, eu, wsg]
        refine ⟨(x % y).toNat, by omega, y, x % y, v, u % v, -sg, _, _, rfl, rfl, by omega, by omega, by omega, by omega, by omega, by omega, by omega, by omega, by omega, ?_, rfl⟩
        rw [← hr, cmp3_sub (a := y * (u % v)) (b := v * (x % y)) (c := u % v * y) (d := x % y * v) (by grind)]
        rcases Int.lt_trichotomy (u % v * y) (x % y * v) with g | g | g
        · rw [cmp3_lt g, cmp3_gt g]; omega
        · rw [cmp3_eq g, cmp3_eq g.symm]; omega
        · rw [cmp3_gt g, cmp3_lt g]; omega
  · have hne : ¬ x / y = u / v := by omega
    have hnl : ¬ x / y < u / v := by omega
    have := div_lt v0 y0 h
    rw [cmp3_gt this] at hr
    simp -implicitDefEqProofs [body_eq, w_skip, w_ops, w_seq, w_cond, w_block, w_exit, w_ret, q_then_n, q_then_e, q_then_r, q_blk_n, q_blk_e, q_blk_r, q_ops, q_cont, q_end_n, q_end_r, q_end_e, q_loop_n, q_loop_e, q_loop_r, i_nil, i_p, i_e, i_call, i_when, t_nil, t_p, t_call, t_e, q_tcont, gsel, List.cons_append, List.nil_append, evalP, evalE, Opd.ev, Env.get, Env.set, Env.pick, putE, initEnv, evalBin, intBin, evalUn, evalConv, goneAll, goneOne, retV, resAll, Res.ev, tupOf, byVals, V.byVal, cx, newObj, St.place, St.push, St.spot, St.empty, V.cells, loadAt, faddrV, partOf, extractV, mkAgg, ofD, splice, St.setObj, fillV, c13_l0]
    refine w_drw (by decide +kernel) ?_
    simp -implicitDefEqProofs [body_eq, w_skip, w_ops, w_seq, w_cond, w_block, w_exit, w_ret, q_then_n, q_then_e, q_then_r, q_blk_n, q_blk_e, q_blk_r, q_ops, q_cont, q_end_n, q_end_r, q_end_e, q_loop_n, q_loop_e, q_loop_r, i_nil, i_p, i_e, i_call, i_when, t_nil, t_p, t_call, t_e, q_tcont, gsel, List.cons_append, List.nil_append, evalP, evalE, Opd.ev, Env.get, Env.set, Env.pick, putE, initEnv, evalBin, intBin, evalUn, evalConv, goneAll, goneOne, retV, resAll, Res.ev, tupOf, byVals, V.byVal, cx, newObj, St.place, St.push, St.spot, St.empty, V.cells, loadAt, faddrV, partOf, extractV, mkAgg, ofD, splice, St.setObj, fillV, St.room, ny, nv, qx, qu, hne]
    refine w_drw (by decide +kernel) ?_
    simp -implicitDefEqProofs [body_eq, w_skip, w_ops, w_seq, w_cond, w_block, w_exit, w_ret, q_then_n, q_then_e, q_then_r, q_blk_n, q_blk_e, q_blk_r, q_ops, q_cont, q_end_n, q_end_r, q_end_e, q_loop_n, q_loop_e, q_loop_r, i_nil, i_p, i_e, i_call, i_when, t_nil, t_p, t_call, t_e, q_tcont, gsel, List.cons_append, List.nil_append, evalP, evalE, Opd.ev, Env.get, Env.set, Env.pick, putE, initEnv, evalBin, intBin, evalUn, evalConv, goneAll, goneOne, retV, resAll, Res.ev, tupOf, byVals, V.byVal, cx, newObj, St.place, St.push, St.spot, St.empty, V.cells, loadAt, faddrV, partOf, extractV, mkAgg, ofD, splice, St.setObj, fillV, St.room, ny, nv, qx, qu, hne, hnl]
    have : sg = r := by omega
    rw [this]
    exact hQ _

end Go.Proofs.Ytgpbkgfkmengaaa.T
