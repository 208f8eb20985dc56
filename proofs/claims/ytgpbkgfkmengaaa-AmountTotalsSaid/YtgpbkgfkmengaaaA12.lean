import Derived.Test.YtgpbkgfkmengaaaA11
namespace Go.Proofs.Ytgpbkgfkmengaaa.T
open Go.Dn
set_option linter.unusedSimpArgs false

inductive LV : V → List (List D) → Prop
  | nil : LV (.d .nils) []
  | list (rows : List (List D)) : LV (.d (.list rows)) rows

theorem LV.len {v : V} {rows : List (List D)} (h : LV v rows) (σ : St) : lenT σ .slice v = some rows.length := by cases h <;> rfl
theorem LV.iaddr {v : V} {rows : List (List D)} (h : LV v rows) (σ : St) {sz i : Nat} {row : List D} (hr : rows[i]? = some row) (hs : row.length = sz) : iaddrV σ sz v (.d (.int .i64 i)) = some (.ro row) := by
  have hl : i < rows.length := by
    rw [List.getElem?_eq_some_iff] at hr; exact hr.1
  have hg : rows[i] = row := by
    rw [List.getElem?_eq_some_iff] at hr; exact hr.2
  cases h with
  | nil => simp at hl
  | list rows => simp [iaddrV, asIdx, V.rows, hl, hg, hs]

theorem LV.rows' {v : V} {rows : List (List D)} (h : LV v rows) (σ : St) : V.rows σ v = some rows := by cases h <;> rfl
theorem LV.byVal {v : V} {rows : List (List D)} (h : LV v rows) (σ : St) : V.byVal σ v = some v ∧ v.borrows = false := by cases h <;> exact ⟨rfl, rfl⟩

def ints (l : List Int) : List (List D) := l.map fun n => [.int .i64 n]
theorem ints_len (l : List Int) : (ints l).length = l.length := by simp [ints]
theorem ints_at {l : List Int} {i : Nat} {n : Int} (h : l[i]? = some n) : (ints l)[i]? = some [.int .i64 n] := by simp [ints, h]

def total : List Int → Int → Option Int
  | [], s => some s
  | n :: r, s => if good n && good (s + n) then total r (s + n) else none

theorem good_inv {n : Int} (h : good n = true) : 0 ≤ n ∧ n ≤ 2100000000000000 := by simp [good] at h; exact h

theorem drop_cons {l : List Int} {i : Nat} (h : i < l.length) : ∃ n, l[i]? = some n ∧ l.drop i = n :: l.drop (i + 1) :=
  ⟨l[i], by simp [h], by rw [List.drop_eq_getElem_cons h]⟩

def Inv19 (l : List Int) (v : V) (m : Nat) (e : Env) (σ : St) : Prop := ∃ (s : Int) (i : Nat) (z : V), e = [(4, I s), (7, v), (8, I l.length), (9, I i), (21, z)] ∧ σ = St.empty ∧ good s = true ∧ i ≤ l.length ∧ total (l.drop i) s = total l 0 ∧ m = l.length - i

def totV (l : List Int) : V := match total l 0 with | some s => .tup [I s, nil] | none => .tup [I 0, .d (.iface 50 (.int .i64 9))]

theorem round19 (l : List Int) (v : V) (hv : LV v (ints l)) (hl : l.length ≤ 1000) (Q : PostC) (hQ : ∀ s z, total l 0 = some s → Q (.exit 0) [(4, I s), (7, v), (8, I l.length), (9, I l.length), (10, B false), (21, z)] St.empty) (hQ' : total l 0 = none → Q .ret [(2, I 0), (3, .d (.iface 50 (.int .i64 9)))] St.empty) :
    ∀ (m : Nat) (e : Env) (σ : St), Inv19 l v m e σ → wcode (Dn.Call Γ cx) cx c19_l0 e σ (loopQ (Inv19 l v) m [4, 7, 8, 9, 21] Q) := by
  rintro m e σ ⟨s, i, z, rfl, rfl, hs, hi, ht, rfl⟩
  obtain ⟨s0, s1⟩ := good_inv hs
  simp -implicitDefEqProofs [body_eq, w_skip, w_ops, w_seq, w_cond, w_block, w_exit, w_ret, q_then_n, q_then_e, q_then_r, q_blk_n, q_blk_e, q_blk_r, q_ops, q_cont, q_end_n, q_end_r, q_end_e, q_loop_n, q_loop_e, q_loop_r, i_nil, i_p, i_e, i_call, i_when, t_nil, t_p, t_call, t_e, q_tcont, gsel, List.cons_append, List.nil_append, evalP, evalE, Opd.ev, Env.get, Env.set, Env.pick, putE, initEnv, evalBin, intBin, evalUn, evalConv, goneAll, goneOne, retV, resAll, Res.ev, tupOf, byVals, V.byVal, cx, newObj, St.place, St.push, St.spot, St.empty, V.cells, loadAt, faddrV, partOf, extractV, mkAgg, ofD, splice, St.setObj, fillV, c19_l0]
  by_cases h : i < l.length
  · obtain ⟨n, h1, h2⟩ := drop_cons h
    have ha := hv.iaddr St.empty (ints_at h1) (by rfl : [D.int .i64 n].length = 1)
    rw [h2, total] at ht
    unfold St.empty at ha
    simp -implicitDefEqProofs [body_eq, w_skip, w_ops, w_seq, w_cond, w_block, w_exit, w_ret, q_then_n, q_then_e, q_then_r, q_blk_n, q_blk_e, q_blk_r, q_ops, q_cont, q_end_n, q_end_r, q_end_e, q_loop_n, q_loop_e, q_loop_r, i_nil, i_p, i_e, i_call, i_when, t_nil, t_p, t_call, t_e, q_tcont, gsel, List.cons_append, List.nil_append, evalP, evalE, Opd.ev, Env.get, Env.set, Env.pick, putE, initEnv, evalBin, intBin, evalUn, evalConv, goneAll, goneOne, retV, resAll, Res.ev, tupOf, byVals, V.byVal, cx, newObj, St.place, St.push, St.spot, St.empty, V.cells, loadAt, faddrV, partOf, extractV, mkAgg, ofD, splice, St.setObj, fillV, h, ha]
    refine use_fn rfl rfl (s23 n) rfl ?_
    by_cases g : good n = true
    · obtain ⟨n0, n1⟩ := good_inv g
      simp -implicitDefEqProofs [body_eq, w_skip, w_ops, w_seq, w_cond, w_block, w_exit, w_ret, q_then_n, q_then_e, q_then_r, q_blk_n, q_blk_e, q_blk_r, q_ops, q_cont, q_end_n, q_end_r, q_end_e, q_loop_n, q_loop_e, q_loop_r, i_nil, i_p, i_e, i_call, i_when, t_nil, t_p, t_call, t_e, q_tcont, gsel, List.cons_append, List.nil_append, evalP, evalE, Opd.ev, Env.get, Env.set, Env.pick, putE, initEnv, evalBin, intBin, evalUn, evalConv, goneAll, goneOne, retV, resAll, Res.ev, tupOf, byVals, V.byVal, cx, newObj, St.place, St.push, St.spot, St.empty, V.cells, loadAt, faddrV, partOf, extractV, mkAgg, ofD, splice, St.setObj, fillV, g, wrap64 (n := s + n) (by omega) (by omega)]
      refine use_fn rfl rfl (s23 (s + n)) rfl ?_
      by_cases g' : good (s + n) = true
      · simp [g, g'] at ht
        simp -implicitDefEqProofs [body_eq, w_skip, w_ops, w_seq, w_cond, w_block, w_exit, w_ret, q_then_n, q_then_e, q_then_r, q_blk_n, q_blk_e, q_blk_r, q_ops, q_cont, q_end_n, q_end_r, q_end_e, q_loop_n, q_loop_e, q_loop_r, i_nil, i_p, i_e, i_call, i_when, t_nil, t_p, t_call, t_e, q_tcont, gsel, List.cons_append, List.nil_append, evalP, evalE, Opd.ev, Env.get, Env.set, Env.pick, putE, initEnv, evalBin, intBin, evalUn, evalConv, goneAll, goneOne, retV, resAll, Res.ev, tupOf, byVals, V.byVal, cx, newObj, St.place, St.push, St.spot, St.empty, V.cells, loadAt, faddrV, partOf, extractV, mkAgg, ofD, splice, St.setObj, fillV, g', wrap64 (n := s + n) (by omega) (by omega), wrap64 (n := (i : Int) + 1) (by omega) (by omega)]
        exact ⟨l.length - (i + 1), by omega, s + n, i + 1, _, rfl, rfl, g', by omega, ht, rfl⟩
      · simp [g, g'] at ht
        simp -implicitDefEqProofs [body_eq, w_skip, w_ops, w_seq, w_cond, w_block, w_exit, w_ret, q_then_n, q_then_e, q_then_r, q_blk_n, q_blk_e, q_blk_r, q_ops, q_cont, q_end_n, q_end_r, q_end_e, q_loop_n, q_loop_e, q_loop_r, i_nil, i_p, i_e, i_call, i_when, t_nil, t_p, t_call, t_e, q_tcont, gsel, List.cons_append, List.nil_append, evalP, evalE, Opd.ev, Env.get, Env.set, Env.pick, putE, initEnv, evalBin, intBin, evalUn, evalConv, goneAll, goneOne, retV, resAll, Res.ev, tupOf, byVals, V.byVal, cx, newObj, St.place, St.push, St.spot, St.empty, V.cells, loadAt, faddrV, partOf, extractV, mkAgg, ofD, splice, St.setObj, fillV, g', mkifV]
        exact hQ' ht.symm
    · simp [g] at ht
      simp -implicitDefEqProofs [body_eq, w_skip, w_ops, w_seq, w_cond, w_block, w_exit, w_ret, q_then_n, q_then_e, q_then_r, q_blk_n, q_blk_e, q_blk_r, q_ops, q_cont, q_end_n, q_end_r, q_end_e, q_loop_n, q_loop_e, q_loop_r, i_nil, i_p, i_e, i_call, i_when, t_nil, t_p, t_call, t_e, q_tcont, gsel, List.cons_append, List.nil_append, evalP, evalE, Opd.ev, Env.get, Env.set, Env.pick, putE, initEnv, evalBin, intBin, evalUn, evalConv, goneAll, goneOne, retV, resAll, Res.ev, tupOf, byVals, V.byVal, cx, newObj, St.place, St.push, St.spot, St.empty, V.cells, loadAt, faddrV, partOf, extractV, mkAgg, ofD, splice, St.setObj, fillV, g, mkifV]
      exact hQ' ht.symm
  · obtain rfl : i = l.length := by omega
    simp [total] at ht
    simp -implicitDefEqProofs [body_eq, w_skip, w_ops, w_seq, w_cond, w_block, w_exit, w_ret, q_then_n, q_then_e, q_then_r, q_blk_n, q_blk_e, q_blk_r, q_ops, q_cont, q_end_n, q_end_r, q_end_e, q_loop_n, q_loop_e, q_loop_r, i_nil, i_p, i_e, i_call, i_when, t_nil, t_p, t_call, t_e, q_tcont, gsel, List.cons_append, List.nil_append, evalP, evalE, Opd.ev, Env.get, Env.set, Env.pick, putE, initEnv, evalBin, intBin, evalUn, evalConv, goneAll, goneOne, retV, resAll, Res.ev, tupOf, byVals, V.byVal, cx, newObj, St.place, St.push, St.spot, St.empty, V.cells, loadAt, faddrV, partOf, extractV, mkAgg, ofD, splice, St.setObj, fillV]
    exact hQ _ _ ht.symm

theorem s19 (l : List Int) (v : V) (hv : LV v (ints l)) (hl : l.length ≤ 1000) : Dn.Call Γ cx 19 [v] St.empty fun r _ => r = totV l := by
  refine Dn.Call.body (fc := c19) rfl ?_
  simp -implicitDefEqProofs [body_eq, w_skip, w_ops, w_seq, w_cond, w_block, w_exit, w_ret, q_then_n, q_then_e, q_then_r, q_blk_n, q_blk_e, q_blk_r, q_ops, q_cont, q_end_n, q_end_r, q_end_e, q_loop_n, q_loop_e, q_loop_r, i_nil, i_p, i_e, i_call, i_when, t_nil, t_p, t_call, t_e, q_tcont, gsel, List.cons_append, List.nil_append, evalP, evalE, Opd.ev, Env.get, Env.set, Env.pick, putE, initEnv, evalBin, intBin, evalUn, evalConv, goneAll, goneOne, retV, resAll, Res.ev, tupOf, byVals, V.byVal, cx, newObj, St.place, St.push, St.spot, St.empty, V.cells, loadAt, faddrV, partOf, extractV, mkAgg, ofD, splice, St.setObj, fillV, c19, hv.len, ints_len]
  refine wloopI (Inv19 l v) (m := l.length) ⟨0, 0, _, rfl, rfl, rfl, by omega, by simp, by simp⟩ (round19 l v hv hl _ (fun s z h => ?_) (fun h => ?_))
  · simp -implicitDefEqProofs [body_eq, w_skip, w_ops, w_seq, w_cond, w_block, w_exit, w_ret, q_then_n, q_then_e, q_then_r, q_blk_n, q_blk_e, q_blk_r, q_ops, q_cont, q_end_n, q_end_r, q_end_e, q_loop_n, q_loop_e, q_loop_r, i_nil, i_p, i_e, i_call, i_when, t_nil, t_p, t_call, t_e, q_tcont, gsel, List.cons_append, List.nil_append, evalP, evalE, Opd.ev, Env.get, Env.set, Env.pick, putE, initEnv, evalBin, intBin, evalUn, evalConv, goneAll, goneOne, retV, resAll, Res.ev, tupOf, byVals, V.byVal, cx, newObj, St.place, St.push, St.spot, St.empty, V.cells, loadAt, faddrV, partOf, extractV, mkAgg, ofD, splice, St.setObj, fillV, totV, h]
  · simp -implicitDefEqProofs [body_eq, w_skip, w_ops, w_seq, w_cond, w_block, w_exit, w_ret, q_then_n, q_then_e, q_then_r, q_blk_n, q_blk_e, q_blk_r, q_ops, q_cont, q_end_n, q_end_r, q_end_e, q_loop_n, q_loop_e, q_loop_r, i_nil, i_p, i_e, i_call, i_when, t_nil, t_p, t_call, t_e, q_tcont, gsel, List.cons_append, List.nil_append, evalP, evalE, Opd.ev, Env.get, Env.set, Env.pick, putE, initEnv, evalBin, intBin, evalUn, evalConv, goneAll, goneOne, retV, resAll, Res.ev, tupOf, byVals, V.byVal, cx, newObj, St.place, St.push, St.spot, St.empty, V.cells, loadAt, faddrV, partOf, extractV, mkAgg, ofD, splice, St.setObj, fillV, totV, h]

def Inv20 (l : List Int) (v : V) (m : Nat) (e : Env) (σ : St) : Prop := ∃ (s : Int) (i : Nat), e = [(0, v), (4, I s), (5, I i)] ∧ σ = St.empty ∧ good s = true ∧ i ≤ l.length ∧ total (l.drop i) s = total l 0 ∧ m = l.length - i

def totN (l : List Int) : V := match total l 0 with | some s => .tup [I s, I 0] | none => .tup [I 0, I 9]

theorem round20 (l : List Int) (v : V) (hv : LV v (ints l)) (hl : l.length ≤ 1000) (Q : PostC) (hQ : ∀ s, total l 0 = some s → Q (.exit 0) [(0, v), (4, I s), (5, I l.length), (9, B false)] St.empty) (hQ' : total l 0 = none → Q .ret [(2, I 0), (3, I 9)] St.empty) :
    ∀ (m : Nat) (e : Env) (σ : St), Inv20 l v m e σ → wcode (Dn.Call Γ cx) cx c20_l0 e σ (loopQ (Inv20 l v) m [0, 4, 5] Q) := by
  rintro m e σ ⟨s, i, rfl, rfl, hs, hi, ht, rfl⟩
  obtain ⟨s0, s1⟩ := good_inv hs
  simp -implicitDefEqProofs [body_eq, w_skip, w_ops, w_seq, w_cond, w_block, w_exit, w_ret, q_then_n, q_then_e, q_then_r, q_blk_n, q_blk_e, q_blk_r, q_ops, q_cont, q_end_n, q_end_r, q_end_e, q_loop_n, q_loop_e, q_loop_r, i_nil, i_p, i_e, i_call, i_when, t_nil, t_p, t_call, t_e, q_tcont, gsel, List.cons_append, List.nil_append, evalP, evalE, Opd.ev, Env.get, Env.set, Env.pick, putE, initEnv, evalBin, intBin, evalUn, evalConv, goneAll, goneOne, retV, resAll, Res.ev, tupOf, byVals, V.byVal, cx, newObj, St.place, St.push, St.spot, St.empty, V.cells, loadAt, faddrV, partOf, extractV, mkAgg, ofD, splice, St.setObj, fillV, c20_l0, hv.len, ints_len]
  by_cases h : i < l.length
  · obtain ⟨n, h1, h2⟩ := drop_cons h
    have ha := hv.iaddr St.empty (ints_at h1) (by rfl : [D.int .i64 n].length = 1)
    rw [h2, total] at ht
    unfold St.empty at ha
    simp -implicitDefEqProofs [body_eq, w_skip, w_ops, w_seq, w_cond, w_block, w_exit, w_ret, q_then_n, q_then_e, q_then_r, q_blk_n, q_blk_e, q_blk_r, q_ops, q_cont, q_end_n, q_end_r, q_end_e, q_loop_n, q_loop_e, q_loop_r, i_nil, i_p, i_e, i_call, i_when, t_nil, t_p, t_call, t_e, q_tcont, gsel, List.cons_append, List.nil_append, evalP, evalE, Opd.ev, Env.get, Env.set, Env.pick, putE, initEnv, evalBin, intBin, evalUn, evalConv, goneAll, goneOne, retV, resAll, Res.ev, tupOf, byVals, V.byVal, cx, newObj, St.place, St.push, St.spot, St.empty, V.cells, loadAt, faddrV, partOf, extractV, mkAgg, ofD, splice, St.setObj, fillV, h, ha]
    refine use_fn rfl rfl (s24 n) rfl ?_
    by_cases g : good n = true
    · obtain ⟨n0, n1⟩ := good_inv g
      simp -implicitDefEqProofs [body_eq, w_skip, w_ops, w_seq, w_cond, w_block, w_exit, w_ret, q_then_n, q_then_e, q_then_r, q_blk_n, q_blk_e, q_blk_r, q_ops, q_cont, q_end_n, q_end_r, q_end_e, q_loop_n, q_loop_e, q_loop_r, i_nil, i_p, i_e, i_call, i_when, t_nil, t_p, t_call, t_e, q_tcont, gsel, List.cons_append, List.nil_append, evalP, evalE, Opd.ev, Env.get, Env.set, Env.pick, putE, initEnv, evalBin, intBin, evalUn, evalConv, goneAll, goneOne, retV, resAll, Res.ev, tupOf, byVals, V.byVal, cx, newObj, St.place, St.push, St.spot, St.empty, V.cells, loadAt, faddrV, partOf, extractV, mkAgg, ofD, splice, St.setObj, fillV, g, ha, wrap64 (n := s + n) (by omega) (by omega)]
      refine use_fn rfl rfl (s24 (s + n)) rfl ?_
      by_cases g' : good (s + n) = true
      · simp [g, g'] at ht
        simp -implicitDefEqProofs [body_eq, w_skip, w_ops, w_seq, w_cond, w_block, w_exit, w_ret, q_then_n, q_then_e, q_then_r, q_blk_n, q_blk_e, q_blk_r, q_ops, q_cont, q_end_n, q_end_r, q_end_e, q_loop_n, q_loop_e, q_loop_r, i_nil, i_p, i_e, i_call, i_when, t_nil, t_p, t_call, t_e, q_tcont, gsel, List.cons_append, List.nil_append, evalP, evalE, Opd.ev, Env.get, Env.set, Env.pick, putE, initEnv, evalBin, intBin, evalUn, evalConv, goneAll, goneOne, retV, resAll, Res.ev, tupOf, byVals, V.byVal, cx, newObj, St.place, St.push, St.spot, St.empty, V.cells, loadAt, faddrV, partOf, extractV, mkAgg, ofD, splice, St.setObj, fillV, g', wrap64 (n := (i : Int) + 1) (by omega) (by omega)]
        exact ⟨l.length - (i + 1), by omega, s + n, i + 1, rfl, rfl, g', by omega, ht, rfl⟩
      · simp [g, g'] at ht
        simp -implicitDefEqProofs [body_eq, w_skip, w_ops, w_seq, w_cond, w_block, w_exit, w_ret, q_then_n, q_then_e, q_then_r, q_blk_n, q_blk_e, q_blk_r, q_ops, q_cont, q_end_n, q_end_r, q_end_e, q_loop_n, q_loop_e, q_loop_r, i_nil, i_p, i_e, i_call, i_when, t_nil, t_p, t_call, t_e, q_tcont, gsel, List.cons_append, List.nil_append, evalP, evalE, Opd.ev, Env.get, Env.set, Env.pick, putE, initEnv, evalBin, intBin, evalUn, evalConv, goneAll, goneOne, retV, resAll, Res.ev, tupOf, byVals, V.byVal, cx, newObj, St.place, St.push, St.spot, St.empty, V.cells, loadAt, faddrV, partOf, extractV, mkAgg, ofD, splice, St.setObj, fillV, g']
        exact hQ' ht.symm
    · simp [g] at ht
      simp -implicitDefEqProofs [body_eq, w_skip, w_ops, w_seq, w_cond, w_block, w_exit, w_ret, q_then_n, q_then_e, q_then_r, q_blk_n, q_blk_e, q_blk_r, q_ops, q_cont, q_end_n, q_end_r, q_end_e, q_loop_n, q_loop_e, q_loop_r, i_nil, i_p, i_e, i_call, i_when, t_nil, t_p, t_call, t_e, q_tcont, gsel, List.cons_append, List.nil_append, evalP, evalE, Opd.ev, Env.get, Env.set, Env.pick, putE, initEnv, evalBin, intBin, evalUn, evalConv, goneAll, goneOne, retV, resAll, Res.ev, tupOf, byVals, V.byVal, cx, newObj, St.place, St.push, St.spot, St.empty, V.cells, loadAt, faddrV, partOf, extractV, mkAgg, ofD, splice, St.setObj, fillV, g]
      exact hQ' ht.symm
  · obtain rfl : i = l.length := by omega
    simp [total] at ht
    simp -implicitDefEqProofs [body_eq, w_skip, w_ops, w_seq, w_cond, w_block, w_exit, w_ret, q_then_n, q_then_e, q_then_r, q_blk_n, q_blk_e, q_blk_r, q_ops, q_cont, q_end_n, q_end_r, q_end_e, q_loop_n, q_loop_e, q_loop_r, i_nil, i_p, i_e, i_call, i_when, t_nil, t_p, t_call, t_e, q_tcont, gsel, List.cons_append, List.nil_append, evalP, evalE, Opd.ev, Env.get, Env.set, Env.pick, putE, initEnv, evalBin, intBin, evalUn, evalConv, goneAll, goneOne, retV, resAll, Res.ev, tupOf, byVals, V.byVal, cx, newObj, St.place, St.push, St.spot, St.empty, V.cells, loadAt, faddrV, partOf, extractV, mkAgg, ofD, splice, St.setObj, fillV]
    exact hQ _ ht.symm

theorem s20 (l : List Int) (v : V) (hv : LV v (ints l)) (hl : l.length ≤ 1000) : Dn.Call Γ cx 20 [v] St.empty fun r _ => r = totN l := by
  refine Dn.Call.body (fc := c20) rfl ?_
  simp -implicitDefEqProofs [body_eq, w_skip, w_ops, w_seq, w_cond, w_block, w_exit, w_ret, q_then_n, q_then_e, q_then_r, q_blk_n, q_blk_e, q_blk_r, q_ops, q_cont, q_end_n, q_end_r, q_end_e, q_loop_n, q_loop_e, q_loop_r, i_nil, i_p, i_e, i_call, i_when, t_nil, t_p, t_call, t_e, q_tcont, gsel, List.cons_append, List.nil_append, evalP, evalE, Opd.ev, Env.get, Env.set, Env.pick, putE, initEnv, evalBin, intBin, evalUn, evalConv, goneAll, goneOne, retV, resAll, Res.ev, tupOf, byVals, V.byVal, cx, newObj, St.place, St.push, St.spot, St.empty, V.cells, loadAt, faddrV, partOf, extractV, mkAgg, ofD, splice, St.setObj, fillV, c20]
  refine wloopI (Inv20 l v) (m := l.length) ⟨0, 0, rfl, rfl, rfl, by omega, by simp, by simp⟩ (round20 l v hv hl _ (fun s h => ?_) (fun h => ?_))
  · simp -implicitDefEqProofs [body_eq, w_skip, w_ops, w_seq, w_cond, w_block, w_exit, w_ret, q_then_n, q_then_e, q_then_r, q_blk_n, q_blk_e, q_blk_r, q_ops, q_cont, q_end_n, q_end_r, q_end_e, q_loop_n, q_loop_e, q_loop_r, i_nil, i_p, i_e, i_call, i_when, t_nil, t_p, t_call, t_e, q_tcont, gsel, List.cons_append, List.nil_append, evalP, evalE, Opd.ev, Env.get, Env.set, Env.pick, putE, initEnv, evalBin, intBin, evalUn, evalConv, goneAll, goneOne, retV, resAll, Res.ev, tupOf, byVals, V.byVal, cx, newObj, St.place, St.push, St.spot, St.empty, V.cells, loadAt, faddrV, partOf, extractV, mkAgg, ofD, splice, St.setObj, fillV, totN, h]
  · simp -implicitDefEqProofs [body_eq, w_skip, w_ops, w_seq, w_cond, w_block, w_exit, w_ret, q_then_n, q_then_e, q_then_r, q_blk_n, q_blk_e, q_blk_r, q_ops, q_cont, q_end_n, q_end_r, q_end_e, q_loop_n, q_loop_e, q_loop_r, i_nil, i_p, i_e, i_call, i_when, t_nil, t_p, t_call, t_e, q_tcont, gsel, List.cons_append, List.nil_append, evalP, evalE, Opd.ev, Env.get, Env.set, Env.pick, putE, initEnv, evalBin, intBin, evalUn, evalConv, goneAll, goneOne, retV, resAll, Res.ev, tupOf, byVals, V.byVal, cx, newObj, St.place, St.push, St.spot, St.empty, V.cells, loadAt, faddrV, partOf, extractV, mkAgg, ofD, splice, St.setObj, fillV, totN, h]

abbrev err9 : V := .d (.iface 50 (.int .i64 9))
def noFee (a b : Int) : Bool := !good a || !good b || decide (a < b)
theorem s21 (a b : Int) : Dn.Call Γ cx 21 [I a, I b] St.empty fun r _ => r = if noFee a b = true then .tup [I 0, err9] else .tup [I (a - b), nil] := by
  refine Dn.Call.body (fc := c21) rfl ?_
  simp -implicitDefEqProofs [body_eq, w_skip, w_ops, w_seq, w_cond, w_block, w_exit, w_ret, q_then_n, q_then_e, q_then_r, q_blk_n, q_blk_e, q_blk_r, q_ops, q_cont, q_end_n, q_end_r, q_end_e, q_loop_n, q_loop_e, q_loop_r, i_nil, i_p, i_e, i_call, i_when, t_nil, t_p, t_call, t_e, q_tcont, gsel, List.cons_append, List.nil_append, evalP, evalE, Opd.ev, Env.get, Env.set, Env.pick, putE, initEnv, evalBin, intBin, evalUn, evalConv, goneAll, goneOne, retV, resAll, Res.ev, tupOf, byVals, V.byVal, cx, newObj, St.place, St.push, St.spot, St.empty, V.cells, loadAt, faddrV, partOf, extractV, mkAgg, ofD, splice, St.setObj, fillV, c21]
  refine use_fn rfl rfl (s23 a) rfl ?_
  by_cases g : good a = true
  · simp -implicitDefEqProofs [body_eq, w_skip, w_ops, w_seq, w_cond, w_block, w_exit, w_ret, q_then_n, q_then_e, q_then_r, q_blk_n, q_blk_e, q_blk_r, q_ops, q_cont, q_end_n, q_end_r, q_end_e, q_loop_n, q_loop_e, q_loop_r, i_nil, i_p, i_e, i_call, i_when, t_nil, t_p, t_call, t_e, q_tcont, gsel, List.cons_append, List.nil_append, evalP, evalE, Opd.ev, Env.get, Env.set, Env.pick, putE, initEnv, evalBin, intBin, evalUn, evalConv, goneAll, goneOne, retV, resAll, Res.ev, tupOf, byVals, V.byVal, cx, newObj, St.place, St.push, St.spot, St.empty, V.cells, loadAt, faddrV, partOf, extractV, mkAgg, ofD, splice, St.setObj, fillV, g]
    refine use_fn rfl rfl (s23 b) rfl ?_
    by_cases g' : good b = true
    · obtain ⟨a0, a1⟩ := good_inv g
      obtain ⟨b0, b1⟩ := good_inv g'
      by_cases h : a < b <;> simp -implicitDefEqProofs [body_eq, w_skip, w_ops, w_seq, w_cond, w_block, w_exit, w_ret, q_then_n, q_then_e, q_then_r, q_blk_n, q_blk_e, q_blk_r, q_ops, q_cont, q_end_n, q_end_r, q_end_e, q_loop_n, q_loop_e, q_loop_r, i_nil, i_p, i_e, i_call, i_when, t_nil, t_p, t_call, t_e, q_tcont, gsel, List.cons_append, List.nil_append, evalP, evalE, Opd.ev, Env.get, Env.set, Env.pick, putE, initEnv, evalBin, intBin, evalUn, evalConv, goneAll, goneOne, retV, resAll, Res.ev, tupOf, byVals, V.byVal, cx, newObj, St.place, St.push, St.spot, St.empty, V.cells, loadAt, faddrV, partOf, extractV, mkAgg, ofD, splice, St.setObj, fillV, g', h, noFee, g, mkifV, wrap64 (n := a - b) (by omega) (by omega)]
    · simp -implicitDefEqProofs [body_eq, w_skip, w_ops, w_seq, w_cond, w_block, w_exit, w_ret, q_then_n, q_then_e, q_then_r, q_blk_n, q_blk_e, q_blk_r, q_ops, q_cont, q_end_n, q_end_r, q_end_e, q_loop_n, q_loop_e, q_loop_r, i_nil, i_p, i_e, i_call, i_when, t_nil, t_p, t_call, t_e, q_tcont, gsel, List.cons_append, List.nil_append, evalP, evalE, Opd.ev, Env.get, Env.set, Env.pick, putE, initEnv, evalBin, intBin, evalUn, evalConv, goneAll, goneOne, retV, resAll, Res.ev, tupOf, byVals, V.byVal, cx, newObj, St.place, St.push, St.spot, St.empty, V.cells, loadAt, faddrV, partOf, extractV, mkAgg, ofD, splice, St.setObj, fillV, g', noFee, mkifV]
  · simp -implicitDefEqProofs [body_eq, w_skip, w_ops, w_seq, w_cond, w_block, w_exit, w_ret, q_then_n, q_then_e, q_then_r, q_blk_n, q_blk_e, q_blk_r, q_ops, q_cont, q_end_n, q_end_r, q_end_e, q_loop_n, q_loop_e, q_loop_r, i_nil, i_p, i_e, i_call, i_when, t_nil, t_p, t_call, t_e, q_tcont, gsel, List.cons_append, List.nil_append, evalP, evalE, Opd.ev, Env.get, Env.set, Env.pick, putE, initEnv, evalBin, intBin, evalUn, evalConv, goneAll, goneOne, retV, resAll, Res.ev, tupOf, byVals, V.byVal, cx, newObj, St.place, St.push, St.spot, St.empty, V.cells, loadAt, faddrV, partOf, extractV, mkAgg, ofD, splice, St.setObj, fillV, g, noFee, mkifV]

def Inv22 (l : List Int) (v v' : V) (m : Nat) (e : Env) (σ : St) : Prop := ∃ (i : Nat), e = [(0, v), (1, v'), (12, I l.length), (13, I i)] ∧ σ = St.empty ∧ i ≤ l.length ∧ m = l.length - i

theorem s22 (l : List Int) (v v' : V) (hv : LV v (ints l)) (hv' : LV v' (ints l)) (hl : l.length ≤ 1000) : Dn.Call Γ cx 22 [v, v'] St.empty fun r _ => r = B true := by
  refine Dn.Call.body (fc := c22) rfl ?_
  simp -implicitDefEqProofs [body_eq, w_skip, w_ops, w_seq, w_cond, w_block, w_exit, w_ret, q_then_n, q_then_e, q_then_r, q_blk_n, q_blk_e, q_blk_r, q_ops, q_cont, q_end_n, q_end_r, q_end_e, q_loop_n, q_loop_e, q_loop_r, i_nil, i_p, i_e, i_call, i_when, t_nil, t_p, t_call, t_e, q_tcont, gsel, List.cons_append, List.nil_append, evalP, evalE, Opd.ev, Env.get, Env.set, Env.pick, putE, initEnv, evalBin, intBin, evalUn, evalConv, goneAll, goneOne, retV, resAll, Res.ev, tupOf, byVals, V.byVal, cx, newObj, St.place, St.push, St.spot, St.empty, V.cells, loadAt, faddrV, partOf, extractV, mkAgg, ofD, splice, St.setObj, fillV, c22, hv.len, hv'.len, ints_len]
  refine wloopI (Inv22 l v v') (m := l.length) ⟨0, rfl, rfl, by omega, by simp⟩ ?_
  rintro m e σ ⟨i, rfl, rfl, hi, rfl⟩
  simp -implicitDefEqProofs [body_eq, w_skip, w_ops, w_seq, w_cond, w_block, w_exit, w_ret, q_then_n, q_then_e, q_then_r, q_blk_n, q_blk_e, q_blk_r, q_ops, q_cont, q_end_n, q_end_r, q_end_e, q_loop_n, q_loop_e, q_loop_r, i_nil, i_p, i_e, i_call, i_when, t_nil, t_p, t_call, t_e, q_tcont, gsel, List.cons_append, List.nil_append, evalP, evalE, Opd.ev, Env.get, Env.set, Env.pick, putE, initEnv, evalBin, intBin, evalUn, evalConv, goneAll, goneOne, retV, resAll, Res.ev, tupOf, byVals, V.byVal, cx, newObj, St.place, St.push, St.spot, St.empty, V.cells, loadAt, faddrV, partOf, extractV, mkAgg, ofD, splice, St.setObj, fillV, c22_l0]
  by_cases h : i < l.length
  · obtain ⟨n, h1, h2⟩ := drop_cons h
    have ha := hv.iaddr ⟨[], []⟩ (ints_at h1) (by rfl : [D.int .i64 n].length = 1)
    have ha' := hv'.iaddr ⟨[], []⟩ (ints_at h1) (by rfl : [D.int .i64 n].length = 1)
    simp -implicitDefEqProofs [body_eq, w_skip, w_ops, w_seq, w_cond, w_block, w_exit, w_ret, q_then_n, q_then_e, q_then_r, q_blk_n, q_blk_e, q_blk_r, q_ops, q_cont, q_end_n, q_end_r, q_end_e, q_loop_n, q_loop_e, q_loop_r, i_nil, i_p, i_e, i_call, i_when, t_nil, t_p, t_call, t_e, q_tcont, gsel, List.cons_append, List.nil_append, evalP, evalE, Opd.ev, Env.get, Env.set, Env.pick, putE, initEnv, evalBin, intBin, evalUn, evalConv, goneAll, goneOne, retV, resAll, Res.ev, tupOf, byVals, V.byVal, cx, newObj, St.place, St.push, St.spot, St.empty, V.cells, loadAt, faddrV, partOf, extractV, mkAgg, ofD, splice, St.setObj, fillV, h]
    refine w_drw (by decide +kernel) ?_
    simp -implicitDefEqProofs [body_eq, w_skip, w_ops, w_seq, w_cond, w_block, w_exit, w_ret, q_then_n, q_then_e, q_then_r, q_blk_n, q_blk_e, q_blk_r, q_ops, q_cont, q_end_n, q_end_r, q_end_e, q_loop_n, q_loop_e, q_loop_r, i_nil, i_p, i_e, i_call, i_when, t_nil, t_p, t_call, t_e, q_tcont, gsel, List.cons_append, List.nil_append, evalP, evalE, Opd.ev, Env.get, Env.set, Env.pick, putE, initEnv, evalBin, intBin, evalUn, evalConv, goneAll, goneOne, retV, resAll, Res.ev, tupOf, byVals, V.byVal, cx, newObj, St.place, St.push, St.spot, St.empty, V.cells, loadAt, faddrV, partOf, extractV, mkAgg, ofD, splice, St.setObj, fillV, St.room, ha, ha', wrap64 (n := (i : Int) + 1) (by omega) (by omega)]
    exact ⟨l.length - (i + 1), by omega, i + 1, rfl, rfl, by omega, rfl⟩
  · obtain rfl : i = l.length := by omega
    simp -implicitDefEqProofs [body_eq, w_skip, w_ops, w_seq, w_cond, w_block, w_exit, w_ret, q_then_n, q_then_e, q_then_r, q_blk_n, q_blk_e, q_blk_r, q_ops, q_cont, q_end_n, q_end_r, q_end_e, q_loop_n, q_loop_e, q_loop_r, i_nil, i_p, i_e, i_call, i_when, t_nil, t_p, t_call, t_e, q_tcont, gsel, List.cons_append, List.nil_append, evalP, evalE, Opd.ev, Env.get, Env.set, Env.pick, putE, initEnv, evalBin, intBin, evalUn, evalConv, goneAll, goneOne, retV, resAll, Res.ev, tupOf, byVals, V.byVal, cx, newObj, St.place, St.push, St.spot, St.empty, V.cells, loadAt, faddrV, partOf, extractV, mkAgg, ofD, splice, St.setObj, fillV]

theorem num_cases {v : V} {n : Int} (h : num v = some n) : v = nil ∧ n = 0 ∨ ∃ m, v = .d (.iface 50 (.int .i64 m)) ∧ n = if m = 0 then -1 else m := by
  unfold num at h
  split at h
  · exact .inl ⟨rfl, by simpa using h.symm⟩
  · rename_i m; exact .inr ⟨m, rfl, by simpa using h.symm⟩
  · cases h

theorem num_val {v : V} {n : Int} (h : num v = some n) (σ : St) : byVals σ [v] = some [v] ∧ v.borrows = false := by
  rcases num_cases h with ⟨rfl, _⟩ | ⟨m, rfl, _⟩ <;> exact ⟨rfl, rfl⟩

theorem s25 {v : V} {n k : Int} (h : num v = some n) : Dn.Call Γ cx 25 [v, I k] St.empty fun r _ => r = B (decide (n = k)) := by
  refine Dn.Call.body (fc := c25) rfl ?_
  simp -implicitDefEqProofs [body_eq, w_skip, w_ops, w_seq, w_cond, w_block, w_exit, w_ret, q_then_n, q_then_e, q_then_r, q_blk_n, q_blk_e, q_blk_r, q_ops, q_cont, q_end_n, q_end_r, q_end_e, q_loop_n, q_loop_e, q_loop_r, i_nil, i_p, i_e, i_call, i_when, t_nil, t_p, t_call, t_e, q_tcont, gsel, List.cons_append, List.nil_append, evalP, evalE, Opd.ev, Env.get, Env.set, Env.pick, putE, initEnv, evalBin, intBin, evalUn, evalConv, goneAll, goneOne, retV, resAll, Res.ev, tupOf, byVals, V.byVal, cx, newObj, St.place, St.push, St.spot, St.empty, V.cells, loadAt, faddrV, partOf, extractV, mkAgg, ofD, splice, St.setObj, fillV, c25]
  refine use_fn rfl (num_val h _).1 (s14 h) (by simp [V.pure, V.flatv, (num_val h St.empty).2]) ?_
  simp -implicitDefEqProofs [body_eq, w_skip, w_ops, w_seq, w_cond, w_block, w_exit, w_ret, q_then_n, q_then_e, q_then_r, q_blk_n, q_blk_e, q_blk_r, q_ops, q_cont, q_end_n, q_end_r, q_end_e, q_loop_n, q_loop_e, q_loop_r, i_nil, i_p, i_e, i_call, i_when, t_nil, t_p, t_call, t_e, q_tcont, gsel, List.cons_append, List.nil_append, evalP, evalE, Opd.ev, Env.get, Env.set, Env.pick, putE, initEnv, evalBin, intBin, evalUn, evalConv, goneAll, goneOne, retV, resAll, Res.ev, tupOf, byVals, V.byVal, cx, newObj, St.place, St.push, St.spot, St.empty, V.cells, loadAt, faddrV, partOf, extractV, mkAgg, ofD, splice, St.setObj, fillV]

theorem s6 (l : List Int) (v : V) (hv : LV v (ints l)) (a b : Int) : Dn.Call Γ cx 6 [v, I a, I b] St.empty fun r _ => r = B true := by
  refine Dn.Call.body (fc := c6) rfl ?_
  simp -implicitDefEqProofs [body_eq, w_skip, w_ops, w_seq, w_cond, w_block, w_exit, w_ret, q_then_n, q_then_e, q_then_r, q_blk_n, q_blk_e, q_blk_r, q_ops, q_cont, q_end_n, q_end_r, q_end_e, q_loop_n, q_loop_e, q_loop_r, i_nil, i_p, i_e, i_call, i_when, t_nil, t_p, t_call, t_e, q_tcont, gsel, List.cons_append, List.nil_append, evalP, evalE, Opd.ev, Env.get, Env.set, Env.pick, putE, initEnv, evalBin, intBin, evalUn, evalConv, goneAll, goneOne, retV, resAll, Res.ev, tupOf, byVals, V.byVal, cx, newObj, St.place, St.push, St.spot, St.empty, V.cells, loadAt, faddrV, partOf, extractV, mkAgg, ofD, splice, St.setObj, fillV, c6]
  refine use_fn rfl rfl s7 rfl ?_
  simp -implicitDefEqProofs [body_eq, w_skip, w_ops, w_seq, w_cond, w_block, w_exit, w_ret, q_then_n, q_then_e, q_then_r, q_blk_n, q_blk_e, q_blk_r, q_ops, q_cont, q_end_n, q_end_r, q_end_e, q_loop_n, q_loop_e, q_loop_r, i_nil, i_p, i_e, i_call, i_when, t_nil, t_p, t_call, t_e, q_tcont, gsel, List.cons_append, List.nil_append, evalP, evalE, Opd.ev, Env.get, Env.set, Env.pick, putE, initEnv, evalBin, intBin, evalUn, evalConv, goneAll, goneOne, retV, resAll, Res.ev, tupOf, byVals, V.byVal, cx, newObj, St.place, St.push, St.spot, St.empty, V.cells, loadAt, faddrV, partOf, extractV, mkAgg, ofD, splice, St.setObj, fillV, hv.len, ints_len]
  intro hl
  have hl' : l.length ≤ 50 := by omega
  have hbv := (hv.byVal St.empty).2
  have hrows : V.rows ⟨[], []⟩ v = some (ints l) := hv.rows' _
  obtain ⟨v1, σ1, hap, hby, hbo⟩ : ∃ v1 σ1, appendV ⟨[], []⟩ none 1 8 (.fl []) (ints l) = some (v1, σ1) ∧ V.byVal σ1 v1 = some (.d (.list (ints l))) ∧ v1.borrows = false := by
    have hf : fitR 1 (ints l) = true := by simp [fitR, ints]
    by_cases he : ints l = []
    · rw [he]; exact ⟨.fl [], ⟨[], []⟩, rfl, rfl, rfl⟩
    · refine ⟨.tl (ints l) 0 0 1, ⟨[], [(ints l).length]⟩, ?_, rfl, rfl⟩
      have e1 : (ints l).length = l.length := ints_len l
      have e2 : (ints l).length ≤ 50 := by omega
      clear e1
      simp [appendV, hf, he, fitR, St.pushTok]
      exact ⟨by simpa [fitR] using hf, by omega, by omega⟩
  have hby1 : byVals σ1 [v1] = some [.d (.list (ints l))] := by simp [byVals, hby]
  have hv1 : LV (.d (.list (ints l))) (ints l) := .list _
  simp -implicitDefEqProofs [body_eq, w_skip, w_ops, w_seq, w_cond, w_block, w_exit, w_ret, q_then_n, q_then_e, q_then_r, q_blk_n, q_blk_e, q_blk_r, q_ops, q_cont, q_end_n, q_end_r, q_end_e, q_loop_n, q_loop_e, q_loop_r, i_nil, i_p, i_e, i_call, i_when, t_nil, t_p, t_call, t_e, q_tcont, gsel, List.cons_append, List.nil_append, evalP, evalE, Opd.ev, Env.get, Env.set, Env.pick, putE, initEnv, evalBin, intBin, evalUn, evalConv, goneAll, goneOne, retV, resAll, Res.ev, tupOf, byVals, V.byVal, cx, newObj, St.place, St.push, St.spot, St.empty, V.cells, loadAt, faddrV, partOf, extractV, mkAgg, ofD, splice, St.setObj, fillV, repl, rowsOf, hrows, hap]
  have t1 : totV l = .tup [I 0, err9] ∧ totN l = .tup [I 0, I 9] ∨ ∃ s, totV l = .tup [I s, nil] ∧ totN l = .tup [I s, I 0] := by
    unfold totV totN
    cases total l 0 with
    | none => exact .inl ⟨rfl, rfl⟩
    | some s => exact .inr ⟨s, rfl, rfl⟩
  have pv : (totV l).pure = true ∧ (totN l).pure = true := by rcases t1 with ⟨a, b⟩ | ⟨s, a, b⟩ <;> rw [a, b] <;> exact ⟨rfl, rfl⟩
  refine use_fn rfl hby1 (s19 l _ hv1 (by omega)) (by simp [pv.1, hbo]) ?_
  rcases t1 with ⟨t1, t2⟩ | ⟨s, t1, t2⟩
  all_goals
    simp -implicitDefEqProofs [body_eq, w_skip, w_ops, w_seq, w_cond, w_block, w_exit, w_ret, q_then_n, q_then_e, q_then_r, q_blk_n, q_blk_e, q_blk_r, q_ops, q_cont, q_end_n, q_end_r, q_end_e, q_loop_n, q_loop_e, q_loop_r, i_nil, i_p, i_e, i_call, i_when, t_nil, t_p, t_call, t_e, q_tcont, gsel, List.cons_append, List.nil_append, evalP, evalE, Opd.ev, Env.get, Env.set, Env.pick, putE, initEnv, evalBin, intBin, evalUn, evalConv, goneAll, goneOne, retV, resAll, Res.ev, tupOf, byVals, V.byVal, cx, newObj, St.place, St.push, St.spot, St.empty, V.cells, loadAt, faddrV, partOf, extractV, mkAgg, ofD, splice, St.setObj, fillV, t1]
    have hb0 : byVals σ1 [v] = some [v] ∧ v.borrows = false := by simp [byVals, hv.byVal, hbv]
    refine use_fn rfl hb0.1 (s20 l v hv (by omega)) (by simp [pv.2, hbv]) ?_
    simp -implicitDefEqProofs [body_eq, w_skip, w_ops, w_seq, w_cond, w_block, w_exit, w_ret, q_then_n, q_then_e, q_then_r, q_blk_n, q_blk_e, q_blk_r, q_ops, q_cont, q_end_n, q_end_r, q_end_e, q_loop_n, q_loop_e, q_loop_r, i_nil, i_p, i_e, i_call, i_when, t_nil, t_p, t_call, t_e, q_tcont, gsel, List.cons_append, List.nil_append, evalP, evalE, Opd.ev, Env.get, Env.set, Env.pick, putE, initEnv, evalBin, intBin, evalUn, evalConv, goneAll, goneOne, retV, resAll, Res.ev, tupOf, byVals, V.byVal, cx, newObj, St.place, St.push, St.spot, St.empty, V.cells, loadAt, faddrV, partOf, extractV, mkAgg, ofD, splice, St.setObj, fillV, t2]
    refine use_fn rfl rfl (s21 a b) (by split <;> rfl) ?_
    by_cases hn : noFee a b = true
    all_goals
      simp -implicitDefEqProofs [body_eq, w_skip, w_ops, w_seq, w_cond, w_block, w_exit, w_ret, q_then_n, q_then_e, q_then_r, q_blk_n, q_blk_e, q_blk_r, q_ops, q_cont, q_end_n, q_end_r, q_end_e, q_loop_n, q_loop_e, q_loop_r, i_nil, i_p, i_e, i_call, i_when, t_nil, t_p, t_call, t_e, q_tcont, gsel, List.cons_append, List.nil_append, evalP, evalE, Opd.ev, Env.get, Env.set, Env.pick, putE, initEnv, evalBin, intBin, evalUn, evalConv, goneAll, goneOne, retV, resAll, Res.ev, tupOf, byVals, V.byVal, cx, newObj, St.place, St.push, St.spot, St.empty, V.cells, loadAt, faddrV, partOf, extractV, mkAgg, ofD, splice, St.setObj, fillV, hn]
      first
      | refine use_fn rfl rfl (s14 (v := err9) (n := 9) rfl) rfl ?_
      | refine use_fn rfl rfl (s14 (v := nil) (n := 0) rfl) rfl ?_
      simp -implicitDefEqProofs [body_eq, w_skip, w_ops, w_seq, w_cond, w_block, w_exit, w_ret, q_then_n, q_then_e, q_then_r, q_blk_n, q_blk_e, q_blk_r, q_ops, q_cont, q_end_n, q_end_r, q_end_e, q_loop_n, q_loop_e, q_loop_r, i_nil, i_p, i_e, i_call, i_when, t_nil, t_p, t_call, t_e, q_tcont, gsel, List.cons_append, List.nil_append, evalP, evalE, Opd.ev, Env.get, Env.set, Env.pick, putE, initEnv, evalBin, intBin, evalUn, evalConv, goneAll, goneOne, retV, resAll, Res.ev, tupOf, byVals, V.byVal, cx, newObj, St.place, St.push, St.spot, St.empty, V.cells, loadAt, faddrV, partOf, extractV, mkAgg, ofD, splice, St.setObj, fillV]
      refine use_fn rfl (by simp [byVals, hby, hv.byVal]) (s22 l _ _ hv1 hv (by omega)) (by simp [V.pure, V.flatv, V.scalars, V.scalar, D.scalar]) ?_
      simp -implicitDefEqProofs [body_eq, w_skip, w_ops, w_seq, w_cond, w_block, w_exit, w_ret, q_then_n, q_then_e, q_then_r, q_blk_n, q_blk_e, q_blk_r, q_ops, q_cont, q_end_n, q_end_r, q_end_e, q_loop_n, q_loop_e, q_loop_r, i_nil, i_p, i_e, i_call, i_when, t_nil, t_p, t_call, t_e, q_tcont, gsel, List.cons_append, List.nil_append, evalP, evalE, Opd.ev, Env.get, Env.set, Env.pick, putE, initEnv, evalBin, intBin, evalUn, evalConv, goneAll, goneOne, retV, resAll, Res.ev, tupOf, byVals, V.byVal, cx, newObj, St.place, St.push, St.spot, St.empty, V.cells, loadAt, faddrV, partOf, extractV, mkAgg, ofD, splice, St.setObj, fillV]
      refine use_fn rfl rfl (s23 a) rfl ?_
      simp -implicitDefEqProofs [body_eq, w_skip, w_ops, w_seq, w_cond, w_block, w_exit, w_ret, q_then_n, q_then_e, q_then_r, q_blk_n, q_blk_e, q_blk_r, q_ops, q_cont, q_end_n, q_end_r, q_end_e, q_loop_n, q_loop_e, q_loop_r, i_nil, i_p, i_e, i_call, i_when, t_nil, t_p, t_call, t_e, q_tcont, gsel, List.cons_append, List.nil_append, evalP, evalE, Opd.ev, Env.get, Env.set, Env.pick, putE, initEnv, evalBin, intBin, evalUn, evalConv, goneAll, goneOne, retV, resAll, Res.ev, tupOf, byVals, V.byVal, cx, newObj, St.place, St.push, St.spot, St.empty, V.cells, loadAt, faddrV, partOf, extractV, mkAgg, ofD, splice, St.setObj, fillV]
      refine use_fn rfl rfl (s24 a) rfl ?_
      simp -implicitDefEqProofs [body_eq, w_skip, w_ops, w_seq, w_cond, w_block, w_exit, w_ret, q_then_n, q_then_e, q_then_r, q_blk_n, q_blk_e, q_blk_r, q_ops, q_cont, q_end_n, q_end_r, q_end_e, q_loop_n, q_loop_e, q_loop_r, i_nil, i_p, i_e, i_call, i_when, t_nil, t_p, t_call, t_e, q_tcont, gsel, List.cons_append, List.nil_append, evalP, evalE, Opd.ev, Env.get, Env.set, Env.pick, putE, initEnv, evalBin, intBin, evalUn, evalConv, goneAll, goneOne, retV, resAll, Res.ev, tupOf, byVals, V.byVal, cx, newObj, St.place, St.push, St.spot, St.empty, V.cells, loadAt, faddrV, partOf, extractV, mkAgg, ofD, splice, St.setObj, fillV, eqV]
      refine use_fn rfl rfl (s24 a) rfl ?_
      by_cases ga : good a = true
      · simp -implicitDefEqProofs [body_eq, w_skip, w_ops, w_seq, w_cond, w_block, w_exit, w_ret, q_then_n, q_then_e, q_then_r, q_blk_n, q_blk_e, q_blk_r, q_ops, q_cont, q_end_n, q_end_r, q_end_e, q_loop_n, q_loop_e, q_loop_r, i_nil, i_p, i_e, i_call, i_when, t_nil, t_p, t_call, t_e, q_tcont, gsel, List.cons_append, List.nil_append, evalP, evalE, Opd.ev, Env.get, Env.set, Env.pick, putE, initEnv, evalBin, intBin, evalUn, evalConv, goneAll, goneOne, retV, resAll, Res.ev, tupOf, byVals, V.byVal, cx, newObj, St.place, St.push, St.spot, St.empty, V.cells, loadAt, faddrV, partOf, extractV, mkAgg, ofD, splice, St.setObj, fillV, ga]
        refine use_fn rfl rfl (s24 b) rfl ?_
        by_cases gb : good b = true
        · obtain ⟨a0, a1⟩ := good_inv ga
          obtain ⟨b0, b1⟩ := good_inv gb
          by_cases hab : a < b
          · simp -implicitDefEqProofs [body_eq, w_skip, w_ops, w_seq, w_cond, w_block, w_exit, w_ret, q_then_n, q_then_e, q_then_r, q_blk_n, q_blk_e, q_blk_r, q_ops, q_cont, q_end_n, q_end_r, q_end_e, q_loop_n, q_loop_e, q_loop_r, i_nil, i_p, i_e, i_call, i_when, t_nil, t_p, t_call, t_e, q_tcont, gsel, List.cons_append, List.nil_append, evalP, evalE, Opd.ev, Env.get, Env.set, Env.pick, putE, initEnv, evalBin, intBin, evalUn, evalConv, goneAll, goneOne, retV, resAll, Res.ev, tupOf, byVals, V.byVal, cx, newObj, St.place, St.push, St.spot, St.empty, V.cells, loadAt, faddrV, partOf, extractV, mkAgg, ofD, splice, St.setObj, fillV, gb, hab]
            first
            | (refine use_fn rfl rfl (s25 (v := err9) (n := 9) rfl) rfl ?_; simp -implicitDefEqProofs [body_eq, w_skip, w_ops, w_seq, w_cond, w_block, w_exit, w_ret, q_then_n, q_then_e, q_then_r, q_blk_n, q_blk_e, q_blk_r, q_ops, q_cont, q_end_n, q_end_r, q_end_e, q_loop_n, q_loop_e, q_loop_r, i_nil, i_p, i_e, i_call, i_when, t_nil, t_p, t_call, t_e, q_tcont, gsel, List.cons_append, List.nil_append, evalP, evalE, Opd.ev, Env.get, Env.set, Env.pick, putE, initEnv, evalBin, intBin, evalUn, evalConv, goneAll, goneOne, retV, resAll, Res.ev, tupOf, byVals, V.byVal, cx, newObj, St.place, St.push, St.spot, St.empty, V.cells, loadAt, faddrV, partOf, extractV, mkAgg, ofD, splice, St.setObj, fillV])
            | (simp [noFee, ga, gb, hab] at hn)
          · simp -implicitDefEqProofs [body_eq, w_skip, w_ops, w_seq, w_cond, w_block, w_exit, w_ret, q_then_n, q_then_e, q_then_r, q_blk_n, q_blk_e, q_blk_r, q_ops, q_cont, q_end_n, q_end_r, q_end_e, q_loop_n, q_loop_e, q_loop_r, i_nil, i_p, i_e, i_call, i_when, t_nil, t_p, t_call, t_e, q_tcont, gsel, List.cons_append, List.nil_append, evalP, evalE, Opd.ev, Env.get, Env.set, Env.pick, putE, initEnv, evalBin, intBin, evalUn, evalConv, goneAll, goneOne, retV, resAll, Res.ev, tupOf, byVals, V.byVal, cx, newObj, St.place, St.push, St.spot, St.empty, V.cells, loadAt, faddrV, partOf, extractV, mkAgg, ofD, splice, St.setObj, fillV, gb, hab, eqV, V.isNil, Opd.isC, wrap64 (n := a - b) (by omega) (by omega)]
            try (simp [noFee, ga, gb, hab] at hn)
        · simp -implicitDefEqProofs [body_eq, w_skip, w_ops, w_seq, w_cond, w_block, w_exit, w_ret, q_then_n, q_then_e, q_then_r, q_blk_n, q_blk_e, q_blk_r, q_ops, q_cont, q_end_n, q_end_r, q_end_e, q_loop_n, q_loop_e, q_loop_r, i_nil, i_p, i_e, i_call, i_when, t_nil, t_p, t_call, t_e, q_tcont, gsel, List.cons_append, List.nil_append, evalP, evalE, Opd.ev, Env.get, Env.set, Env.pick, putE, initEnv, evalBin, intBin, evalUn, evalConv, goneAll, goneOne, retV, resAll, Res.ev, tupOf, byVals, V.byVal, cx, newObj, St.place, St.push, St.spot, St.empty, V.cells, loadAt, faddrV, partOf, extractV, mkAgg, ofD, splice, St.setObj, fillV, gb]
          first
          | (refine use_fn rfl rfl (s25 (v := err9) (n := 9) rfl) rfl ?_; simp -implicitDefEqProofs [body_eq, w_skip, w_ops, w_seq, w_cond, w_block, w_exit, w_ret, q_then_n, q_then_e, q_then_r, q_blk_n, q_blk_e, q_blk_r, q_ops, q_cont, q_end_n, q_end_r, q_end_e, q_loop_n, q_loop_e, q_loop_r, i_nil, i_p, i_e, i_call, i_when, t_nil, t_p, t_call, t_e, q_tcont, gsel, List.cons_append, List.nil_append, evalP, evalE, Opd.ev, Env.get, Env.set, Env.pick, putE, initEnv, evalBin, intBin, evalUn, evalConv, goneAll, goneOne, retV, resAll, Res.ev, tupOf, byVals, V.byVal, cx, newObj, St.place, St.push, St.spot, St.empty, V.cells, loadAt, faddrV, partOf, extractV, mkAgg, ofD, splice, St.setObj, fillV])
          | (simp [noFee, ga, gb] at hn)
      · simp -implicitDefEqProofs [body_eq, w_skip, w_ops, w_seq, w_cond, w_block, w_exit, w_ret, q_then_n, q_then_e, q_then_r, q_blk_n, q_blk_e, q_blk_r, q_ops, q_cont, q_end_n, q_end_r, q_end_e, q_loop_n, q_loop_e, q_loop_r, i_nil, i_p, i_e, i_call, i_when, t_nil, t_p, t_call, t_e, q_tcont, gsel, List.cons_append, List.nil_append, evalP, evalE, Opd.ev, Env.get, Env.set, Env.pick, putE, initEnv, evalBin, intBin, evalUn, evalConv, goneAll, goneOne, retV, resAll, Res.ev, tupOf, byVals, V.byVal, cx, newObj, St.place, St.push, St.spot, St.empty, V.cells, loadAt, faddrV, partOf, extractV, mkAgg, ofD, splice, St.setObj, fillV, ga]
        first
        | (refine use_fn rfl rfl (s25 (v := err9) (n := 9) rfl) rfl ?_; simp -implicitDefEqProofs [body_eq, w_skip, w_ops, w_seq, w_cond, w_block, w_exit, w_ret, q_then_n, q_then_e, q_then_r, q_blk_n, q_blk_e, q_blk_r, q_ops, q_cont, q_end_n, q_end_r, q_end_e, q_loop_n, q_loop_e, q_loop_r, i_nil, i_p, i_e, i_call, i_when, t_nil, t_p, t_call, t_e, q_tcont, gsel, List.cons_append, List.nil_append, evalP, evalE, Opd.ev, Env.get, Env.set, Env.pick, putE, initEnv, evalBin, intBin, evalUn, evalConv, goneAll, goneOne, retV, resAll, Res.ev, tupOf, byVals, V.byVal, cx, newObj, St.place, St.push, St.spot, St.empty, V.cells, loadAt, faddrV, partOf, extractV, mkAgg, ofD, splice, St.setObj, fillV])
        | (simp [noFee, ga] at hn)

end Go.Proofs.Ytgpbkgfkmengaaa.T
