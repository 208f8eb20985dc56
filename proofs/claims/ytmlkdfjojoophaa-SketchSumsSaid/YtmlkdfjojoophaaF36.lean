import Derived.Test.YtmlkdfjojoophaaF20
namespace Go.Proofs.Ytmlkdfjojoophaa.T
open Go.Dn
attribute [local simp] body_eq globEnv GB List.map_nil List.map_cons List.append_nil w_rangeF i_next i_makeMap i_range i_update i_delete i_entry i_clone entryV cloneV q_rndA q_rndB_n q_rndB_e q_rndB_r setAll w_skip w_ops w_seq w_cond w_block w_exit w_ret q_then_n q_then_e q_then_r q_blk_n q_blk_e q_blk_r q_ops q_cont q_end_n q_end_r q_end_e q_loop_n q_loop_e q_loop_r i_nil i_p i_alloc i_box i_store i_copy i_clear i_call i_callv i_when t_nil t_p t_call t_alloc t_box t_store kept_nil t_copy t_clear q_tcont gsel List.cons_append List.nil_append evalP evalE evalF evalB isObj thaw Opd.ev Env.get Env.set Env.pick putE initEnv evalBin intBin evalUn evalConv goneAll goneOne retV resAll Res.ev tupOf byVals byValsN bv_d bv_da bv_fl bv_tl bn_d bn_da bn_fl bn_tl cx Dn.newObj St.place St.push St.spot St.empty cell_d cell_da cell_agg cell_ref cell_sl cell_fl cell_tl cell_map cell_fn cell_ifc loadAt faddrV partOf extractV mkAgg ofD splice St.setObj fillV
set_option linter.unusedSimpArgs false
set_option linter.unusedVariables false

/-! ### Reverse, Equal -/
def revTo (L : List W32) (k : Nat) : List W32 := (List.range L.length).map fun i => if i < k ∨ L.length - k ≤ i then L.getD (L.length - 1 - i) 0 else L.getD i 0
theorem revTo_len (L : List W32) (k : Nat) : (revTo L k).length = L.length := by simp [revTo]
theorem revTo_co (L : List W32) (k : Nat) {i : Nat} (h : i < L.length) : (revTo L k).getD i 0 = if i < k ∨ L.length - k ≤ i then L.getD (L.length - 1 - i) 0 else L.getD i 0 := by
  rw [List.getD_eq_getElem?_getD]
  simp [revTo, h]
theorem revTo_zero (L : List W32) : revTo L 0 = L := Gf.list_ext_co (revTo_len L 0) fun i hi => by
  rw [revTo_len] at hi
  rw [revTo_co L 0 hi, if_neg (by omega)]
theorem revTo_all {L : List W32} {k : Nat} (h : L.length ≤ 2 * k + 1) : revTo L k = L.reverse := Gf.list_ext_co (by rw [revTo_len, List.length_reverse]) fun i hi => by
  rw [revTo_len] at hi
  obtain ⟨n, hn⟩ : ∃ n, L.length = n + 1 := ⟨L.length - 1, by omega⟩
  rw [revTo_co L k hi, getD_rev hn (by omega), hn]
  split
  · rw [Nat.add_sub_cancel]
  · rw [show n - i = i by omega]
theorem revTo_step {L : List W32} {k : Nat} {a b : W32} (hk : 2 * k + 1 < L.length) (ha : L[k]? = some a) (hb : L[L.length - 1 - k]? = some b) : ((revTo L k).set k b).set (L.length - 1 - k) a = revTo L (k + 1) := by
  refine Gf.list_ext_co (by simp [revTo_len]) fun i hi => ?_
  rw [List.length_set, List.length_set, revTo_len] at hi
  rw [getD_set (by rw [List.length_set, revTo_len]; omega), getD_set (by rw [revTo_len]; omega), revTo_co L k hi, revTo_co L (k + 1) hi]
  by_cases h1 : i = L.length - 1 - k
  · rw [if_pos h1, if_pos (by omega), show L.length - 1 - i = k by omega, getD_at ha]
  · rw [if_neg h1]
    by_cases h2 : i = k
    · rw [if_pos h2, if_pos (by omega), h2, getD_at hb]
    · rw [if_neg h2]
      by_cases h3 : i < k ∨ L.length - k ≤ i
      · rw [if_pos h3, if_pos (by omega)]
      · rw [if_neg h3, if_neg (by omega)]
theorem revTo_mid {L : List W32} {k i : Nat} (h1 : k ≤ i) (h2 : i < L.length - k) : (revTo L k)[i]? = L[i]? := by
  have hi : i < L.length := by omega
  have h3 := revTo_co L k hi
  rw [if_neg (by omega)] at h3
  rw [List.getD_eq_getElem?_getD, List.getD_eq_getElem?_getD, List.getElem?_eq_getElem hi, List.getElem?_eq_getElem (by rw [revTo_len]; exact hi)] at h3
  rw [List.getElem?_eq_getElem hi, List.getElem?_eq_getElem (by rw [revTo_len]; exact hi)]
  simpa using h3
def InvRev (σ : St) (r : Nat) (L : List W32) (m : Nat) (e : Env) (s : St) : Prop := ∃ k : Nat, e = [(0, .sl r 0 L.length 1), (2, I k), (3, I ((L.length : Int) - 1 - k))] ∧ m = L.length - k ∧ 2 * k ≤ L.length ∧ s.objs[r]? = some (.cells (wV (revTo L k))) ∧ Fr [r] σ s ∧ s.toks = σ.toks
theorem s_Reverse {σ : St} {r : Nat} {L : List W32} (h : σ.objs[r]? = some (.cells (wV L))) (hl : L.length ≤ 100000) : Dn.Call Γ cx .raw 37 [.sl r 0 L.length 1] σ fun _ s => s.objs[r]? = some (.cells (wV L.reverse)) ∧ Fr [r] σ s ∧ s.toks = σ.toks := by
  refine Dn.Call.body (fc := c37) rfl ?_
  have w1 : IntKind.i64.wrap ((L.length : Int) - 1) = (L.length : Int) - 1 := wrap_i64 (by omega) (by omega)
  simp -implicitDefEqProofs [c37, lenT, Dn.lenV, w1, c37_k5]
  refine wloopI (InvRev σ r L) (m := L.length) ⟨0, by simp [Env.pick, Env.get], rfl, by omega, by rw [revTo_zero]; exact h, Fr.refl _ _, rfl⟩ ?_
  rintro m e s ⟨k, rfl, rfl, hk, ho, hfr, htk⟩
  rcases hkd : decide ((k : Int) < (L.length : Int) - 1 - k) with _ | _
  · have hlt : ¬ (k : Int) < (L.length : Int) - 1 - k := of_decide_eq_false hkd
    rw [revTo_all (by omega)] at ho
    simp -implicitDefEqProofs [hlt, c37_l4, c37_k3]
    exact ⟨ho, hfr, htk⟩
  have hlt : (k : Int) < (L.length : Int) - 1 - k := of_decide_eq_true hkd
  obtain ⟨a, ha⟩ : ∃ a, L[k]? = some a := ⟨_, List.getElem?_eq_getElem (by omega)⟩
  obtain ⟨b, hb⟩ : ∃ b, L[L.length - 1 - k]? = some b := ⟨_, List.getElem?_eq_getElem (by omega)⟩
  have hst := revTo_step (by omega) ha hb
  have ha' : (revTo L k)[k]? = some a := by rw [revTo_mid (by omega) (by omega)]; exact ha
  have hb' : (revTo L k)[L.length - 1 - k]? = some b := by rw [revTo_mid (by omega) (by omega)]; exact hb
  have hl0 := revTo_len L k
  obtain ⟨j, hj⟩ : ∃ j, L.length - 1 - k = j := ⟨_, rfl⟩
  have hjI : (L.length : Int) - 1 - k = (j : Int) := by omega
  rw [hj] at hst hb' hb
  rw [hjI] at hlt ⊢
  obtain ⟨n, hn⟩ : ∃ n, L.length = n := ⟨_, rfl⟩
  have s1 := wV_set (L := revTo L k) (i := k) (by omega) b
  have s2 := wV_set (L := (revTo L k).set k b) (i := j) (by simp; omega) a
  rw [hst] at s2
  have iak := fun σ => iaddr_sl σ (q := r) (n := n) (i := k) (by omega)
  have iaj := fun σ => iaddr_sl σ (q := r) (n := n) (i := j) (by omega)
  have hak := wV_at ha'
  have hbj := wV_at hb'
  have l1 := wV_len (revTo L k)
  have l2 := wV_len ((revTo L k).set k b)
  rw [List.length_set, hl0, hn] at l2
  rw [hl0, hn] at l1
  have hrs : r < s.objs.length := (List.getElem?_eq_some_iff.1 ho).1
  have og : ∀ o, (s.objs.set r o)[r]? = some o := fun o => by simp [hrs]
  have wk : IntKind.i64.wrap ((k : Int) + 1) = ((k + 1 : Nat) : Int) := by rw [wrap_i64 (by omega) (by omega)]; omega
  have wj : IntKind.i64.wrap ((j : Int) - 1) = (n : Int) - 1 - ((k + 1 : Nat) : Int) := by rw [wrap_i64 (by omega) (by omega)]; omega
  have hk1 : k + 1 ≤ n := by omega
  have hj1 : j + 1 ≤ n := by omega
  generalize wV (revTo L k) = ca at *
  generalize wV ((revTo L k).set k b) = cb at *
  rw [hn]
  simp -implicitDefEqProofs [hlt, c37_l4, c37_k3, c37_k2, c37_k1]
  refine w_drwX (fun _ => .val) [] (by decide +kernel) ?_
  simp only [room_zero]
  simp -implicitDefEqProofs [-splice, iak, iaj, ho, hak, hbj, l1, hk1, s1]
  simp -implicitDefEqProofs [-splice, iaj, og, l2, hj1, s2, c37_k0, wk, wj]
  exact ⟨n - (k + 1), by omega, k + 1, by rw [hn]; rfl, by rw [hn], by omega, by simp [hrs], fr_set1 hfr, htk⟩

def InvEq (x y : D) (n : Nat) (m : Nat) (e : Env) (s : St) : Prop := ∃ i : Nat, e = [(0, .d x), (1, .d y), (12, I n), (13, I i)] ∧ m = n - i ∧ i ≤ n ∧ s = St.empty
theorem s_Equal {x y : D} {X Y : List W32} (hx : PL x X) (hy : PL y Y) (lX : X.length ≤ 100000) (lY : Y.length ≤ 100000) : Dn.Call Γ cx .val 39 [.d x, .d y] St.empty fun v _ => v = B (decide (X = Y)) := by
  refine Dn.Call.body (fc := c39) rfl ?_
  have hlx : ∀ σ, lenT σ .slice (.d x) = some X.length := fun σ => by rw [hx.len, pR_len]
  have hly : ∀ σ, lenT σ .slice (.d y) = some Y.length := fun σ => by rw [hy.len, pR_len]
  by_cases hl : X.length = Y.length
  rotate_left
  · have hne : X ≠ Y := fun e => hl (by rw [e])
    have hlI : ¬ (X.length : Int) = Y.length := by omega
    simp -implicitDefEqProofs [c39, c39_k9, hlx, hly, hl, hlI, c39_k8, hne]
  simp -implicitDefEqProofs [c39, c39_k9, hlx, hly, hl, c39_k8, c39_k7, c39_k6]
  refine wloopI (fun m e s => InvEq x y X.length m e s ∧ ∀ i, i + m < X.length → X.getD i 0 = Y.getD i 0) (m := X.length) ⟨⟨0, by rw [hl]; rfl, rfl, by omega, rfl⟩, fun i hi => by omega⟩ ?_
  rintro m e s ⟨⟨i, rfl, rfl, hi, rfl⟩, hall⟩
  rcases hin : decide ((i : Int) < X.length) with _ | _
  · have hlt : ¬ (i : Int) < X.length := of_decide_eq_false hin
    have heq : X = Y := Gf.list_ext_co hl fun j hj => hall j (by omega)
    simp -implicitDefEqProofs [hlt, c39_l5, c39_k4, heq]
    omega
  have hlt : (i : Int) < X.length := of_decide_eq_true hin
  obtain ⟨a, ha⟩ : ∃ a, X[i]? = some a := ⟨_, List.getElem?_eq_getElem (by omega)⟩
  obtain ⟨b, hb⟩ : ∃ b, Y[i]? = some b := ⟨_, List.getElem?_eq_getElem (by omega)⟩
  have hia := fun σ => hx.iaddr σ (k := .i64) (sz := 1) (i := i) (pR_at ha) rfl
  have hib := fun σ => hy.iaddr σ (k := .i64) (sz := 1) (i := i) (pR_at hb) rfl
  have w9 : IntKind.i64.wrap ((i : Int) + 1) = ((i + 1 : Nat) : Int) := by rw [wrap_i64 (by omega) (by omega)]; omega
  simp -implicitDefEqProofs [hlt, c39_l5, c39_k4, c39_k3, c39_k2, c39_k1]
  refine w_drwX (fun _ => .val) [] (by decide +kernel) ?_
  simp only [room_zero]
  simp -implicitDefEqProofs [hia, hib]
  by_cases hab : a = b
  · subst hab
    simp -implicitDefEqProofs [c39_k0, w9]
    refine ⟨X.length - (i + 1), by omega, ⟨i + 1, rfl, rfl, by omega, rfl⟩, fun j hj => ?_⟩
    by_cases hji : j = i
    · subst hji
      have e1 := getD_at ha
      have e2 := getD_at hb
      rw [List.getD_eq_getElem?_getD] at e1 e2
      exact e1.trans e2.symm
    · have := hall j (by omega)
      rw [List.getD_eq_getElem?_getD, List.getD_eq_getElem?_getD] at this
      exact this
  · have hu : ¬ un a = un b := fun e => hab (by rw [← wof_un a, e, wof_un])
    have hne : X ≠ Y := fun e => hab (by rw [e, hb] at ha; exact (Option.some.inj ha).symm)
    simp -implicitDefEqProofs [hu, c39_k0, hne]

/-! ### sketches as they are read -/
def fnL (n : Nat) (f : Nat → W32) : List W32 := (List.range n).map f
theorem fnL_len (n : Nat) (f : Nat → W32) : (fnL n f).length = n := by simp [fnL]
theorem fnL_wV (n : Nat) (f : Nat → W32) : wV (fnL n f) = fnV n f := by
  unfold wV fnL fnV
  rw [List.map_map]
  rfl
theorem fnL_co {n : Nat} (f : Nat → W32) {k : Nat} (h : k < n) : (fnL n f).getD k 0 = f k := by
  rw [List.getD_eq_getElem?_getD]
  simp [fnL, h]
/-- The object of a sketch, as it is read. -/
structure SkR (s : St) (y : Nat) (v : V) (L : List W32) : Prop where
  o : s.objs[y]? = some (.cells [v])
  r : Rd s v L
  n : ∀ r off n sz, v = .sl r off n sz → r ≠ y
theorem SkR.fr {σ s : St} {y : Nat} {v : V} {L : List W32} (h : SkR σ y v L) (hf : Fr [] σ s) : SkR s y v L := ⟨hf.get h.o (by simp), h.r.fr hf, h.n⟩
theorem Sk.toR {s : St} {y r n : Nat} {f : Nat → W32} (h : Sk s y r n f) (hne : r ≠ y) : SkR s y (.sl r 0 n 1) (fnL n f) := by
  refine ⟨h.o, ?_, fun r' off n' sz e => by cases e; exact hne⟩
  have hl := h.l
  rw [← fnL_wV] at hl
  have := Rd.whole hl
  rwa [fnL_len] at this
theorem s_skCap {σ : St} {y : Nat} {v : V} {L : List W32} (h : SkR σ y v L) : Dn.Call Γ cx .rd 13 [.ref y 0] σ fun w _ => w = I L.length := by
  refine Dn.Call.body (fc := c13) rfl ?_
  have hl := fun σ => h.r.len σ
  simp -implicitDefEqProofs [c13, c13_k2, eqV, V.isNil, Opd.isC, c13_k1, c13_k0, nilCheckV, h.o, hl]
  exact ⟨fun i hi => rfl, fun t k ht => ht⟩

/-! powers -/
def powTo (L : List W32) : Nat → List W32
  | 0 => []
  | i + 1 => powTo L i ++ [if i % 2 = 0 then L.getD (i / 2) 0 else Gf.sq ((powTo L i).getD (i / 2) 0)]
theorem powTo_len (L : List W32) : ∀ i, (powTo L i).length = i
  | 0 => rfl
  | i + 1 => by simp [powTo, powTo_len L i]
def powL (L : List W32) : List W32 := powTo L (2 * L.length)
theorem powTo_co (L : List W32) : ∀ {n i : Nat}, i < n → (powTo L n).getD i 0 = if i % 2 = 0 then L.getD (i / 2) 0 else Gf.sq ((powTo L i).getD (i / 2) 0)
  | 0, i, h => by omega
  | n + 1, i, h => by
    simp only [powTo]
    rw [List.getD_eq_getElem?_getD]
    by_cases hi : i < n
    · rw [List.getElem?_append_left (by rw [powTo_len]; exact hi), ← List.getD_eq_getElem?_getD]
      exact powTo_co L hi
    · obtain rfl : i = n := by omega
      rw [List.getElem?_append_right (by rw [powTo_len]; exact Nat.le_refl _), powTo_len, Nat.sub_self]
      rfl
def InvPw (σ : St) (y : Nat) (L : List W32) (N : Nat) (m : Nat) (e : Env) (s : St) : Prop := ∃ i : Nat, e = [(0, .ref y 0), (3, .sl σ.objs.length 0 N 1), (13, I N), (14, I i)] ∧ m = N - i ∧ i ≤ N ∧ New σ s (.sl σ.objs.length 0 N 1) (powTo L i ++ List.replicate (N - i) 0)
theorem pow_set (L : List W32) {N i : Nat} (hi : i < N) (w : W32) : (powTo L i ++ List.replicate (N - i) 0).set i w = (powTo L i ++ [w]) ++ List.replicate (N - (i + 1)) 0 := by
  obtain ⟨k, hk⟩ : ∃ k, N - i = k + 1 := ⟨N - i - 1, by omega⟩
  have hk2 : N - (i + 1) = k := by omega
  rw [hk, hk2, List.set_append_right _ _ (by rw [powTo_len]; exact Nat.le_refl _), powTo_len, Nat.sub_self, List.replicate_succ, List.set_cons_zero, List.append_assoc]
  rfl
theorem s_powers {σ : St} {y : Nat} {v : V} {L : List W32} (h : SkR σ y v L) (lL : L.length ≤ 100) : Dn.Call Γ cx .rd 36 [.ref y 0] σ (isPL (powL L)) := by
  refine Dn.Call.body (fc := c36) rfl ?_
  have hl := fun σ => h.r.len σ
  have w1 : IntKind.i64.wrap (2 * (L.length : Int)) = ((2 * L.length : Nat) : Int) := by rw [wrap_i64 (by omega) (by omega)]; omega
  obtain ⟨N, hN⟩ : ∃ N, 2 * L.length = N := ⟨_, rfl⟩
  rw [hN] at w1
  simp -implicitDefEqProofs [c36, c36_k10, nilCheckV, h.o, hl, w1]
  refine i_app_f (v := .sl σ.objs.length 0 N 1) (s := ⟨σ.objs ++ [.cells (wV (List.replicate N 0))], σ.toks⟩) ?_ ?_
  · have b1 : (N : Int) * 4 ≤ 140737488355328 := by omega
    have b2 : (N : Int) ≤ 9223372036854775807 := by omega
    simp [evalE, Opd.ev, Env.get, b1, b2, repl_wV, Dn.newObj, St.place, St.push, St.spot]
  simp -implicitDefEqProofs [c36_k9, lenT, Dn.lenV, c36_k8]
  have hyl : y < σ.objs.length := (List.getElem?_eq_some_iff.1 h.o).1
  have h00 : New σ ⟨σ.objs ++ [.cells (wV (List.replicate N 0))], σ.toks⟩ (.sl σ.objs.length 0 N 1) (powTo L 0 ++ List.replicate (N - 0) 0) := by
    refine ⟨?_, Fr.push1 _ _, fun r off n sz e => by cases e; exact Nat.le_refl _, rfl⟩
    have : Ob ⟨σ.objs ++ [.cells (wV (List.replicate N 0))], σ.toks⟩ (.sl σ.objs.length 0 (List.replicate N (0 : W32)).length 1) (List.replicate N 0) := .sl (by simp)
    rw [List.length_replicate] at this
    exact this
  refine wloopI (InvPw σ y L N) (m := N) ⟨0, rfl, rfl, by omega, h00⟩ ?_
  rintro m e s ⟨i, rfl, rfl, hi, hN2⟩
  have hS := h.fr hN2.fr
  rcases hin : decide ((i : Int) < N) with _ | _
  · have hlt : ¬ (i : Int) < N := of_decide_eq_false hin
    obtain rfl : i = N := by omega
    rw [Nat.sub_self, List.replicate_zero, List.append_nil] at hN2
    obtain ⟨d, b1, l1⟩ := hN2.ob.rd.byVal
    have hbn : V.byValN σ.objs.length s (.sl σ.objs.length 0 i 1) = some (.d d) := by
      simp only [V.byValN]
      rw [if_pos (Nat.le_refl _)]
      exact b1
    simp -implicitDefEqProofs [hlt, c36_l7, c36_k6, c36_k0, hbn]
    exact ⟨hN2.fr.keeps (fun t k ht => by rw [hN2.tk]; exact ht), d, rfl, by unfold powL; rw [hN]; exact l1⟩
  have hlt : (i : Int) < N := of_decide_eq_true hin
  have hi2 : i < N := by omega
  have hset := fun w => hN2.set (i := i) hi2 (by simp [powTo_len]; omega) w
  have hsv := fun w => wV_set (L := powTo L i ++ List.replicate (N - i) 0) (i := i) (by simp [powTo_len]; omega) w
  have hps := fun w => pow_set L hi2 w
  have hob := hN2.obj.1
  have hlV := wV_len (powTo L i ++ List.replicate (N - i) (0 : W32))
  have hll : (powTo L i ++ List.replicate (N - i) (0 : W32)).length = N := by simp [powTo_len]; omega
  rw [hll] at hlV
  have ia := fun s => iaddr_sl s (q := σ.objs.length) (n := N) (i := i) hi2
  have w9 : IntKind.i64.wrap ((i : Int) + 1) = ((i + 1 : Nat) : Int) := by rw [wrap_i64 (by omega) (by omega)]; omega
  have w2 : IntKind.i64.wrap ((i : Int) / 2) = ((i / 2 : Nat) : Int) := by
    rw [wrap_i64 (by omega) (by omega)]
    omega
  have hrem : (i : Int).tmod 2 = ((i % 2 : Nat) : Int) := rfl
  obtain ⟨k, hk⟩ : ∃ k, i / 2 = k := ⟨_, rfl⟩
  rw [hk] at w2
  have hi1 : i + 1 ≤ N := by omega
  by_cases hev : i % 2 = 0
  · obtain ⟨a, ha⟩ : ∃ a, L[k]? = some a := ⟨_, List.getElem?_eq_getElem (by omega)⟩
    obtain ⟨ad, h1, h2⟩ := hS.r.at ha
    have hstep : powTo L (i + 1) = powTo L i ++ [a] := by
      simp only [powTo]
      rw [if_pos hev, hk, getD_at ha]
    have e0 : ((i % 2 : Nat) : Int) = 0 := by omega
    have hs1 := hset a
    have hs2 := hsv a
    rw [hps, ← hstep] at hs1 hs2
    generalize wV (powTo L i ++ List.replicate (N - i) (0 : W32)) = cs at *
    simp -implicitDefEqProofs [-loadAt, -splice, hlt, c36_l7, c36_k6, c36_k5, c36_k4, c36_k3, hrem, e0, hev, c36_k2, c36_k1]
    have hl0 : loadAt s false 1 (.ref y 0) = some v := by simp [loadAt, hS.o]
    simp -implicitDefEqProofs [-loadAt, -splice, nilCheckV, hl0, w2, h1, h2, ia, hob, hlV, hi1, hs2, w9]
    exact ⟨N - (i + 1), by omega, i + 1, rfl, rfl, by omega, hs1⟩
  · obtain ⟨a, ha⟩ : ∃ a, (powTo L i)[k]? = some a := ⟨_, List.getElem?_eq_getElem (by rw [powTo_len]; omega)⟩
    have ha2 : (powTo L i ++ List.replicate (N - i) (0 : W32))[k]? = some a := by rw [List.getElem?_append_left (by rw [powTo_len]; omega)]; exact ha
    have hat := wV_at ha2
    have hstep : powTo L (i + 1) = powTo L i ++ [Gf.mul a a] := by
      simp only [powTo]
      rw [if_neg hev, hk, getD_at ha]
      rfl
    have e0 : ¬ (i : Int) % 2 = 0 := by omega
    have hs1 := hset (Gf.mul a a)
    have hs2 := hsv (Gf.mul a a)
    rw [hps, ← hstep] at hs1 hs2
    have iak := fun s => iaddr_sl s (q := σ.objs.length) (n := N) (i := k) (by omega)
    generalize wV (powTo L i ++ List.replicate (N - i) (0 : W32)) = cs at *
    simp -implicitDefEqProofs [hlt, c36_l7, c36_k6, c36_k5, c36_k4, c36_k3, hrem, e0, hev, c36_k2, w2, iak, hob, hat]
    refine use_fn rfl (s_Square a) rfl ?_
    simp -implicitDefEqProofs [-splice, ia, hob, hlV, hi1, hs2, w9]
    exact ⟨N - (i + 1), by omega, i + 1, rfl, rfl, by omega, hs1⟩
end Go.Proofs.Ytmlkdfjojoophaa.T

namespace Go.Proofs.Ytmlkdfjojoophaa.T
open Go.Dn
attribute [local simp] body_eq globEnv GB List.map_nil List.map_cons List.append_nil w_rangeF i_next i_makeMap i_range i_update i_delete i_entry i_clone entryV cloneV q_rndA q_rndB_n q_rndB_e q_rndB_r setAll w_skip w_ops w_seq w_cond w_block w_exit w_ret q_then_n q_then_e q_then_r q_blk_n q_blk_e q_blk_r q_ops q_cont q_end_n q_end_r q_end_e q_loop_n q_loop_e q_loop_r i_nil i_p i_alloc i_box i_store i_copy i_clear i_call i_callv i_when t_nil t_p t_call t_alloc t_box t_store kept_nil t_copy t_clear q_tcont gsel List.cons_append List.nil_append evalP evalE evalF evalB isObj thaw Opd.ev Env.get Env.set Env.pick putE initEnv evalBin intBin evalUn evalConv goneAll goneOne retV resAll Res.ev tupOf byVals byValsN bv_d bv_da bv_fl bv_tl bn_d bn_da bn_fl bn_tl cx Dn.newObj St.place St.push St.spot St.empty cell_d cell_da cell_agg cell_ref cell_sl cell_fl cell_tl cell_map cell_fn cell_ifc loadAt faddrV partOf extractV mkAgg ofD splice St.setObj fillV
set_option linter.unusedSimpArgs false
set_option linter.unusedVariables false
open Gf (dg)

/-! ### which sets have given sums -/
def osum (T : List W32) (k : Nat) : W32 := lsum T fun x => oddp x k
theorem acc_map (f : Nat → W32) (k : Nat) : ∀ (T : List W32), acc f (T.map un) k = f k ^^^ osum T k := by
  intro T
  unfold acc osum
  generalize f k = a
  induction T generalizing a with
  | nil => exact (Gf.x0 a).symm
  | cons x T ih =>
    simp only [List.map_cons, List.foldl_cons, lsum]
    rw [ih, wof_un, BitVec.xor_assoc]
theorem acc_osum (T : List W32) : acc (fun _ => 0) (T.map un) = osum T := by
  funext k
  rw [acc_map]
  exact Gf.zx _
theorem uRows_map (T : List W32) : uRows (T.map un) = pR T := by
  unfold uRows pR
  rw [List.map_map]
  rfl
theorem un_bound (T : List W32) : ∀ i ∈ T.map un, 0 ≤ i ∧ i ≤ 4294967295 := fun i hi => by
  obtain ⟨w, _, rfl⟩ := List.mem_map.1 hi
  have := w.isLt
  simp only [un]
  omega
theorem un_zero_mem (T : List W32) : (0 : Int) ∈ T.map un ↔ (0 : W32) ∈ T := by
  constructor
  · intro h
    obtain ⟨w, hw, h0⟩ := List.mem_map.1 h
    have := (un_zero_iff w).1 h0
    rwa [this] at hw
  · intro h
    exact List.mem_map.2 ⟨0, h, rfl⟩
structure Valid (L T : List W32) : Prop where
  nd : T.Nodup
  nz : (0 : W32) ∉ T
  ln : T.length ≤ L.length
  sm : ∀ k, k < L.length → L.getD k 0 = osum T k
theorem sq_npow (x : W32) (n : Nat) : Gf.sq (Gf.npow x n) = Gf.npow x (2 * n) := by
  unfold Gf.sq
  rw [← Gf.npow_add, Nat.two_mul]
theorem sq_lsum (f : W32 → W32) : ∀ T : List W32, Gf.sq (lsum T f) = lsum T fun x => Gf.sq (f x)
  | [] => Gf.sq_zero
  | x :: T => by simp only [lsum]; rw [Gf.sq_xor, sq_lsum f T]
theorem pows_of {L T : List W32} (h : ∀ k, k < L.length → L.getD k 0 = osum T k) : ∀ n, n ≤ 2 * L.length → ∀ i, i < n → (powTo L n).getD i 0 = lsum T fun x => Gf.npow x (i + 1) := by
  intro n hn i
  induction i using Nat.strongRecOn generalizing n with
  | _ i ih =>
    intro hi
    rw [powTo_co L hi]
    split
    · rename_i he
      rw [h _ (by omega)]
      unfold osum oddp
      rw [show 2 * (i / 2) + 1 = i + 1 by omega]
    · rename_i he
      rw [ih (i / 2) (by omega) i (by omega) (by omega), sq_lsum]
      refine lsum_congr fun x _ => ?_
      rw [sq_npow, show 2 * (i / 2 + 1) = i + 1 by omega]
theorem Valid.pows {L T : List W32} (h : Valid L T) : Pows T (powL L) := fun i hi => pows_of h.sm (2 * L.length) (Nat.le_refl _) i (by
  unfold powL at hi
  rwa [powTo_len] at hi)
theorem Valid.rule {L T : List W32} (h : Valid L T) : (ruleL (powL L)).reverse = Gf.prodL T :=
  rule_prod h.nd h.nz h.pows (by unfold powL; rw [powTo_len]; have := h.ln; omega)
/-- There is at most one set. -/
theorem Valid.unique {L T T' : List W32} (h : Valid L T) (h' : Valid L T') : T.Perm T' := by
  have e : Gf.prodL T = Gf.prodL T' := h.rule.symm.trans h'.rule
  refine (List.perm_ext_iff_of_nodup h.nd h'.nd).2 fun x => ?_
  rw [← Gf.ev_prodL (S := T), e, Gf.ev_prodL]
theorem lsum_perm (f : W32 → W32) {T T' : List W32} (h : T.Perm T') : lsum T f = lsum T' f := by
  induction h with
  | nil => rfl
  | cons x _ ih => simp only [lsum]; rw [ih]
  | swap x y l => simp only [lsum]; rw [← BitVec.xor_assoc, ← BitVec.xor_assoc, BitVec.xor_comm (f y)]
  | trans _ _ h1 h2 => exact h1.trans h2
theorem Valid.perm {L T T' : List W32} (h : Valid L T) (hp : T.Perm T') : Valid L T' :=
  ⟨hp.nodup_iff.1 h.nd, fun e => h.nz (hp.mem_iff.2 e), by rw [← hp.length_eq]; exact h.ln, fun k hk => by rw [h.sm k hk]; exact lsum_perm _ hp⟩
/-- Those that stand an odd number of times. -/
theorem odd_set : ∀ ids : List W32, ∃ T : List W32, T.Nodup ∧ (∀ x ∈ T, x ∈ ids) ∧ T.length ≤ ids.length ∧ ∀ f, lsum T f = lsum ids f
  | [] => ⟨[], List.nodup_nil, by simp, Nat.le_refl _, fun _ => rfl⟩
  | x :: ids => by
    obtain ⟨T, h1, h2, h3, h4⟩ := odd_set ids
    by_cases hx : x ∈ T
    · have hp := List.perm_cons_erase hx
      refine ⟨T.erase x, h1.erase x, fun y hy => List.mem_cons_of_mem _ (h2 y (List.mem_of_mem_erase hy)), ?_, fun f => ?_⟩
      · have := hp.length_eq
        simp at this ⊢
        omega
      · have := lsum_perm f hp
        simp only [lsum] at this ⊢
        rw [← h4 f, this, ← BitVec.xor_assoc, Gf.xs, Gf.zx]
    · exact ⟨x :: T, List.nodup_cons.2 ⟨hx, h1⟩, fun y hy => by
        rcases List.mem_cons.1 hy with rfl | hy
        · simp
        · exact List.mem_cons_of_mem _ (h2 y hy), by simp; omega, fun f => by simp only [lsum]; rw [h4 f]⟩

/-! ### New, with a 0 -/
theorem s_skPutZ {σ : St} {x : Nat} {v : V} {ids : List Int} (hv : LV v (uRows ids)) (hz : (0 : Int) ∈ ids) (hlen : ids.length ≤ 1000) :
    Dn.Call Γ cx .raw 28 [.ref x 0, v] σ fun w s => w = errV 1 ∧ s = σ := by
  refine Dn.Call.body (fc := c28) rfl ?_
  have hdv := hv.dv σ
  obtain ⟨y, hy⟩ := hdv.2.2.1
  have hc := s_Contains (x := y) (L := ids) (hy ▸ hdv.2.1) (h := 0) (by omega)
  have hcv : decide ((0 : Int) ∈ ids) = true := by simpa using hz
  rw [hcv] at hc
  simp -implicitDefEqProofs [c28, c28_k7, eqV, V.isNil, Opd.isC]
  refine use_fn (ds := [.d y, X 0]) (by simp only [byVals, bv_d, hdv.1, hy]) hc (Bool.or_true _) ?_
  simp -implicitDefEqProofs [c28_k6, mkifV, errV]
theorem s_skNewZ {σ : St} {n : Nat} (h1 : 1 ≤ n) (h2 : n ≤ 40) {v : V} {ids : List Int} (hv : LV v (uRows ids)) (hz : (0 : Int) ∈ ids) (hlen : ids.length ≤ 1000) :
    Dn.Call Γ cx .raw 11 [I n, v] σ fun w s => w = .tup [.d .nilp, errV 1] ∧ Fr [] σ s ∧ s.toks = σ.toks := by
  refine Dn.Call.body (fc := c11) rfl ?_
  have l1 : ¬ (n : Int) < 1 := by omega
  have l2 : ¬ (40 : Int) < n := by omega
  have l1' : (1 : Int) ≤ n := by omega
  have l2' : (n : Int) ≤ 40 := by omega
  obtain ⟨n1, hn1⟩ : ∃ n1 : Int, (n : Int) = n1 := ⟨_, rfl⟩
  simp -implicitDefEqProofs [c11, c11_k6, l1, l2, c11_k5]
  simp -implicitDefEqProofs [c11_k4]
  refine i_app_f (v := .sl σ.objs.length 0 n 1) (s := ⟨σ.objs ++ [.cells (fnV n fun _ => 0)], σ.toks⟩) ?_ ?_
  · have hb : (n : Int) * 4 ≤ 140737488355328 := by omega
    have hb2 : (n : Int) ≤ 9223372036854775807 := by omega
    have hr : repl n [.int .u32 0] = fnV n fun _ => 0 := by
      rw [← zeros_fn]
      exact repl_one n
    simp [evalE, Opd.ev, Env.get, hb, hb2, hr, Dn.newObj, St.place, St.push, St.spot]
  simp -implicitDefEqProofs
  refine use_raw (s_skPutZ hv hz hlen) fun w s ⟨hw, hs⟩ => ?_
  subst hw hs
  simp -implicitDefEqProofs [errV, eqV, V.isNil, Opd.isC, c11_k3, c11_k2, c11_k1]
  exact ⟨by simp, fun q _ hq => by simp only; rw [List.getElem?_append_left hq]⟩

/-! ### Decode -/
def decQ (L : List W32) (v : V) : Prop := (v = .tup [.d .nils, errV 13] ∧ ∀ T, ¬ Valid L T) ∨ (∃ d T, v = .tup [.d d, .d .nili] ∧ PL d T ∧ Valid L T ∧ T.Pairwise fun a b => un a ≤ un b)
theorem dec_eq {σ s : St} {y x r : Nat} {v : V} {L ids : List W32} {d : D} (hy : SkR s y v L) (lL : L.length ≤ 40) (hx : SkR s x (.sl r 0 L.length 1) (fnL L.length (osum ids))) (hf : Fr [] σ s) (ht : s.toks = σ.toks) (hok : fnL L.length (osum ids) = L → ∃ T, PL d T ∧ Valid L T ∧ T.Pairwise fun a b => un a ≤ un b) (hno : fnL L.length (osum ids) ≠ L → ∀ T, ¬ Valid L T) :
    wcode (Dn.Call Γ cx) cx c15_k2 [(0, .ref y 0), (5, .d d), (7, .ref x 0), (8, .d .nili)] s (endQ .raw σ c15.res fun w s => decQ L w ∧ Fr [] σ s ∧ s.toks = σ.toks) := by
  obtain ⟨d1, b1, l1⟩ := hx.r.byVal
  obtain ⟨d2, b2, l2⟩ := hy.r.byVal
  have hlx := fnL_len L.length (osum ids)
  simp only [c15_k2, w_seq, c15]
  refine w_drwX (fun _ => .val) [] (by decide +kernel) ?_
  simp only [room_zero]
  simp -implicitDefEqProofs [eqV, V.isNil, Opd.isC, nilCheckV, hx.o, hy.o]
  refine use_fnN (ds := [.d d1, .d d2]) rfl (by simp only [byVals, b1, b2]) (s_Equal l1 l2 (by omega) (by omega)) (Bool.or_true _) ?_
  simp only [q_tcont, putE, Env.set]
  by_cases he : fnL L.length (osum ids) = L
  · obtain ⟨T, h1, h2, h3⟩ := hok he
    simp -implicitDefEqProofs [he, c15_k1, c15_k0]
    exact ⟨.inr ⟨d, T, rfl, h1, h2, h3⟩, hf, ht⟩
  · simp -implicitDefEqProofs [he, c15_k1, mkifV]
    exact ⟨.inl ⟨rfl, hno he⟩, hf, ht⟩
theorem dec_err {σ s : St} {y : Nat} {L : List W32} {d : D} (hf : Fr [] σ s) (ht : s.toks = σ.toks) (hno : ∀ T, ¬ Valid L T) :
    wcode (Dn.Call Γ cx) cx c15_k2 [(0, .ref y 0), (5, .d d), (7, .d .nilp), (8, .d (.iface 39 (.int .i64 1)))] s (endQ .raw σ c15.res fun w s => decQ L w ∧ Fr [] σ s ∧ s.toks = σ.toks) := by
  simp only [c15_k2, w_seq, c15]
  refine w_drwX (fun _ => .val) [] (by decide +kernel) ?_
  simp only [room_zero]
  simp -implicitDefEqProofs [eqV, V.isNil, Opd.isC, nilCheckV, c15_k1, mkifV]
  exact ⟨.inl ⟨rfl, hno⟩, hf, ht⟩
theorem s_Decode {σ : St} {y : Nat} {v : V} {L : List W32} (h : SkR σ y v L) (l1 : 1 ≤ L.length) (l40 : L.length ≤ 40) : Dn.Call Γ cx .raw 15 [.ref y 0] σ fun w s => decQ L w ∧ Fr [] σ s ∧ s.toks = σ.toks := by
  refine Dn.Call.body (fc := c15) rfl ?_
  have hlv := fun σ => h.r.len σ
  have lp : (powL L).length = 2 * L.length := powTo_len L _
  simp -implicitDefEqProofs [c15, c15_k12, eqV, V.isNil, Opd.isC, c15_k11, c15_k10]
  refine use_rd' (s_powers h (by omega)) fun w s ⟨d, hw, hd⟩ => ?_
  subst hw
  simp -implicitDefEqProofs
  refine use_raw (s_Shortest hd (by omega)) fun w s ⟨r, hw, hN⟩ => ?_
  have hrl := ruleL_len (powL L)
  have hvr := fun {T : List W32} (hT : Valid L T) => hT.rule
  have hnb := (runM_len (powL L) (powL L).length).2.2.2
  generalize ruleL (powL L) = R at *
  generalize (runM (powL L) (powL L).length).len = n at *
  subst hw
  have hS := h.fr hN.fr
  have hob := hN.obj.1
  have hlsl : ∀ σ m, lenT σ .slice (.sl r 0 m 1) = some m := fun _ _ => rfl
  have w1 : IntKind.i64.wrap (n : Int) = (n : Int) := wrap_i64 (by omega) (by omega)
  by_cases hgt : L.length < n
  · have hgI : (L.length : Int) < n := by omega
    simp -implicitDefEqProofs [c15_k9, nilCheckV, hS.o, hlv, hlsl, hrl, w1, hgI, hgt, c15_k8, mkifV]
    refine ⟨.inl ⟨rfl, fun T hT => ?_⟩, hN.fr, hN.tk⟩
    have h2 := congrArg List.length (hvr hT)
    rw [List.length_reverse, hrl, Gf.prodL_len] at h2
    have := hT.ln
    omega
  have hgI : ¬ (L.length : Int) < n := by omega
  simp -implicitDefEqProofs [c15_k9, nilCheckV, hS.o, hlv, hlsl, hrl, w1, hgI, hgt, c15_k8, c15_k7]
  rw [← hrl]
  refine use_raw (s_Reverse hob (by omega)) fun w s2 ⟨ho2, hf2, ht2⟩ => ?_
  have hrf : σ.objs.length ≤ r := hN.nw _ _ _ _ rfl
  have hf2' : Fr [] σ s2 := ⟨Nat.le_trans hN.fr.len hf2.len, fun q _ hq => by
    rw [hf2.at_ q (by simp; omega) (Nat.lt_of_lt_of_le hq hN.fr.len)]
    exact hN.fr.at_ q (by simp) hq⟩
  have hrv : R.reverse.length = R.length := List.length_reverse
  have hlr : R.reverse.length = n + 1 := by omega
  have hrow : V.rows s2 (.sl r 0 R.length 1) = some (pR R.reverse) := by
    rw [← hrv]
    exact (Rd.whole ho2).rows
  generalize R.reverse = P at *
  simp -implicitDefEqProofs [c15_k6]
  refine use_thaw (ds := [.d (.list (pR P))]) (σ' := s2.setObj r .dead) (by simp only [thawV, hrow]) rfl rfl (s_Split (.list (pR P)) (by omega)) fun w s3 hw => ?_
  have hf3 : Fr [] σ (s2.setObj r .dead) := ⟨by simpa [St.setObj] using hf2'.len, fun q _ hq => by
    simp only [St.setObj]
    rw [List.getElem?_set_ne (by omega)]
    exact hf2'.at_ q (by simp) hq⟩
  have ht3 : (s2.setObj r .dead).toks = σ.toks := ht2.trans hN.tk
  have hS3 := h.fr hf3
  generalize s2.setObj r .dead = s4 at *
  have dP := Gf.dg_le P
  have hval : ∀ T, Valid L T → ¬ badP P ∧ (foundP (linearP P)).Perm T ∧ dg P = T.length + 1 := fun T hT => by
    have hPT : P = Gf.prodL T := hvr hT
    have hln := hT.ln
    have hd := Gf.prodL_dg T
    rw [hPT]
    refine ⟨?_, found_prod hT.nd (by omega), hd⟩
    unfold badP
    omega
  rcases hw with ⟨rfl, hbad⟩ | ⟨hnb2, d2, ids, rfl, hd2, hr2, hl2⟩
  · refine ⟨rfl, ?_⟩
    simp -implicitDefEqProofs [c15_k5, c15_k4, mkifV]
    refine ⟨.inl ⟨rfl, fun T hT => ?_⟩, hf3, ht3⟩
    obtain ⟨v1, v2, v3⟩ := hval T hT
    rcases hbad with hb | hb
    · exact v1 hb
    · rw [v2.length_eq, v3] at hb
      exact hb rfl
  refine ⟨rfl, ?_⟩
  simp -implicitDefEqProofs [c15_k5, c15_k4, c15_k3, nilCheckV, hS3.o, hlv]
  have hidl : ids.length ≤ 60 := hr2.2.2
  have hlvI : LV (.d d2) (uRows (ids.map un)) := by rw [uRows_map]; exact hd2
  have hvp : ∀ T, Valid L T → ids.Perm T := fun T hT => hr2.1.trans (hval T hT).2.1
  by_cases hz : (0 : W32) ∈ ids
  · refine use_raw (s_skNewZ l1 l40 hlvI ((un_zero_mem ids).2 hz) (by simp; omega)) fun w s5 ⟨hw, hf5, ht5⟩ => ?_
    subst hw
    simp -implicitDefEqProofs [errV]
    exact dec_err (hf3.trans hf5) (ht5.trans ht3) fun T hT => hT.nz ((hvp T hT).mem_iff.1 hz)
  refine use_raw (s_skNew l1 l40 hlvI (un_bound ids) (fun e => hz ((un_zero_mem ids).1 e)) (by simp; omega)) fun w s5 ⟨hw, hSk, hf5, ht5⟩ => ?_
  subst hw
  simp -implicitDefEqProofs
  rw [acc_osum] at hSk
  have hlS := (List.getElem?_eq_some_iff.1 hSk.l).1
  refine dec_eq (hS3.fr hf5) l40 (hSk.toR (by omega)) (hf3.trans hf5) (ht5.trans ht3) (fun he => ?_) (fun he T hT => ?_)
  · obtain ⟨T0, t1, t2, t3, t4⟩ := odd_set ids
    have hsm : ∀ k, k < L.length → L.getD k 0 = osum ids k := fun k hk => by
      have h6 := fnL_co (osum ids) hk
      rw [he] at h6
      exact h6
    have hT0 : Valid L T0 := ⟨t1, fun e => hz (t2 0 e), by omega, fun k hk => by rw [hsm k hk]; exact (t4 _).symm⟩
    exact ⟨ids, hd2, hT0.perm (hvp T0 hT0).symm, hr2.2.1⟩
  · apply he
    refine Gf.list_ext_co (fnL_len _ _) fun k hk => ?_
    rw [fnL_len] at hk
    rw [fnL_co _ hk, hT.sm k hk]
    exact lsum_perm _ (hvp T hT)
end Go.Proofs.Ytmlkdfjojoophaa.T

namespace Go.Proofs.Ytmlkdfjojoophaa.T
open Go.Dn
attribute [local simp] body_eq globEnv GB List.map_nil List.map_cons List.append_nil w_rangeF i_next i_makeMap i_range i_update i_delete i_entry i_clone entryV cloneV q_rndA q_rndB_n q_rndB_e q_rndB_r setAll w_skip w_ops w_seq w_cond w_block w_exit w_ret q_then_n q_then_e q_then_r q_blk_n q_blk_e q_blk_r q_ops q_cont q_end_n q_end_r q_end_e q_loop_n q_loop_e q_loop_r i_nil i_p i_alloc i_box i_store i_copy i_clear i_call i_callv i_when t_nil t_p t_call t_alloc t_box t_store kept_nil t_copy t_clear q_tcont gsel List.cons_append List.nil_append evalP evalE evalF evalB isObj thaw Opd.ev Env.get Env.set Env.pick putE initEnv evalBin intBin evalUn evalConv goneAll goneOne retV resAll Res.ev tupOf byVals byValsN bv_d bv_da bv_fl bv_tl bn_d bn_da bn_fl bn_tl cx Dn.newObj St.place St.push St.spot St.empty cell_d cell_da cell_agg cell_ref cell_sl cell_fl cell_tl cell_map cell_fn cell_ifc loadAt faddrV partOf extractV mkAgg ofD splice St.setObj fillV
set_option linter.unusedSimpArgs false
set_option linter.unusedVariables false

/-! ### Words, none, Is -/
theorem s_WordsW {x y : D} {X Y : List W32} (hx : PL x X) (hy : PL y Y) (lX : X.length ≤ 100000) (lY : Y.length ≤ 100000) : Dn.Call Γ cx .val 16 [.d x, .d y] St.empty fun v _ => v = B (decide (X = Y)) := by
  refine Dn.Call.body (fc := c16) rfl ?_
  have hlx : ∀ σ, lenT σ .slice (.d x) = some X.length := fun σ => by rw [hx.len, pR_len]
  have hly : ∀ σ, lenT σ .slice (.d y) = some Y.length := fun σ => by rw [hy.len, pR_len]
  by_cases hl : X.length = Y.length
  rotate_left
  · have hne : X ≠ Y := fun e => hl (by rw [e])
    have hlI : ¬ (X.length : Int) = Y.length := by omega
    simp -implicitDefEqProofs [c16, c16_k9, hlx, hly, hl, hlI, c16_k8, hne]
  simp -implicitDefEqProofs [c16, c16_k9, hlx, hly, hl, c16_k8, c16_k7, c16_k6]
  refine wloopI (fun m e s => InvEq x y X.length m e s ∧ ∀ i, i + m < X.length → X.getD i 0 = Y.getD i 0) (m := X.length) ⟨⟨0, by rw [hl]; rfl, rfl, by omega, rfl⟩, fun i hi => by omega⟩ ?_
  rintro m e s ⟨⟨i, rfl, rfl, hi, rfl⟩, hall⟩
  rcases hin : decide ((i : Int) < X.length) with _ | _
  · have hlt : ¬ (i : Int) < X.length := of_decide_eq_false hin
    have heq : X = Y := Gf.list_ext_co hl fun j hj => hall j (by omega)
    simp -implicitDefEqProofs [hlt, c16_l5, c16_k4, heq]
    omega
  have hlt : (i : Int) < X.length := of_decide_eq_true hin
  obtain ⟨a, ha⟩ : ∃ a, X[i]? = some a := ⟨_, List.getElem?_eq_getElem (by omega)⟩
  obtain ⟨b, hb⟩ : ∃ b, Y[i]? = some b := ⟨_, List.getElem?_eq_getElem (by omega)⟩
  have hia := fun σ => hx.iaddr σ (k := .i64) (sz := 1) (i := i) (pR_at ha) rfl
  have hib := fun σ => hy.iaddr σ (k := .i64) (sz := 1) (i := i) (pR_at hb) rfl
  have w9 : IntKind.i64.wrap ((i : Int) + 1) = ((i + 1 : Nat) : Int) := by rw [wrap_i64 (by omega) (by omega)]; omega
  simp -implicitDefEqProofs [hlt, c16_l5, c16_k4, c16_k3, c16_k2, c16_k1]
  refine w_drwX (fun _ => .val) [] (by decide +kernel) ?_
  simp only [room_zero]
  simp -implicitDefEqProofs [hia, hib]
  by_cases hab : a = b
  · subst hab
    simp -implicitDefEqProofs [c16_k0, w9]
    refine ⟨X.length - (i + 1), by omega, ⟨i + 1, rfl, rfl, by omega, rfl⟩, fun j hj => ?_⟩
    by_cases hji : j = i
    · subst hji
      have e1 := getD_at ha
      have e2 := getD_at hb
      rw [List.getD_eq_getElem?_getD] at e1 e2
      exact e1.trans e2.symm
    · have := hall j (by omega)
      rw [List.getD_eq_getElem?_getD, List.getD_eq_getElem?_getD] at this
      exact this
  · have hu : ¬ un a = un b := fun e => hab (by rw [← wof_un a, e, wof_un])
    have hne : X ≠ Y := fun e => hab (by rw [e, hb] at ha; exact (Option.some.inj ha).symm)
    simp -implicitDefEqProofs [hu, c16_k0, hne]
theorem errV_bv (c : Int) (s : St) : V.byVal s (errV c) = some (errV c) := by
  unfold errV
  split <;> rfl
theorem s_Is (c k : Int) : Dn.Call Γ cx .val 17 [errV c, I k] St.empty fun v _ => v = B (decide (c = k)) := by
  refine Dn.Call.body (fc := c17) rfl ?_
  simp -implicitDefEqProofs [c17, c17_k0]
  refine use_fn (ds := [errV c]) (by simp only [byVals, errV_bv]) (s_Num c) (Bool.or_true _) ?_
  simp -implicitDefEqProofs
def InvNone (x : D) (L : List W32) (m : Nat) (e : Env) (s : St) : Prop := ∃ i : Nat, e = [(5, .d x), (6, I L.length), (7, I i)] ∧ m = L.length - i ∧ i ≤ L.length ∧ s = St.empty ∧ (0 : W32) ∉ L.take i
theorem s_none {x : D} {L : List W32} (hx : PL x L) (hl : L.length ≤ 100000) : Dn.Call Γ cx .val 10 [.d x] St.empty fun v _ => v = B (decide ((0 : W32) ∈ L)) := by
  refine Dn.Call.body (fc := c10) rfl ?_
  have hlx : ∀ σ, lenT σ .slice (.d x) = some L.length := fun σ => by rw [hx.len, pR_len]
  simp -implicitDefEqProofs [c10, c10_k7, hlx, c10_k6]
  refine wloopI (InvNone x L) (m := L.length) ⟨0, rfl, rfl, by omega, rfl, by simp⟩ ?_
  rintro m e s ⟨i, rfl, rfl, hi, rfl, hz⟩
  rcases hin : decide ((i : Int) < L.length) with _ | _
  · have hlt : ¬ (i : Int) < L.length := of_decide_eq_false hin
    obtain rfl : i = L.length := by omega
    rw [List.take_length] at hz
    simp -implicitDefEqProofs [hlt, c10_l5, c10_k4]
    exact hz
  have hlt : (i : Int) < L.length := of_decide_eq_true hin
  obtain ⟨a, ha⟩ : ∃ a, L[i]? = some a := ⟨_, List.getElem?_eq_getElem (by omega)⟩
  have hia := fun σ => hx.iaddr σ (k := .i64) (sz := 1) (i := i) (pR_at ha) rfl
  have w9 : IntKind.i64.wrap ((i : Int) + 1) = ((i + 1 : Nat) : Int) := by rw [wrap_i64 (by omega) (by omega)]; omega
  by_cases h0 : a = 0
  · have hu : un a = 0 := (un_zero_iff a).2 h0
    have hm : (0 : W32) ∈ L := by rw [← h0]; exact List.mem_of_getElem? ha
    have hm' : (0#32 : W32) ∈ L := hm
    simp -implicitDefEqProofs [hlt, c10_l5, c10_k4, c10_k3, c10_k2, hia, c10_k1, hu, c10_k0, hm']
  · have hu : ¬ un a = 0 := fun e => h0 ((un_zero_iff a).1 e)
    simp -implicitDefEqProofs [hlt, c10_l5, c10_k4, c10_k3, c10_k2, hia, c10_k1, hu, c10_k0, w9]
    refine ⟨L.length - (i + 1), by omega, i + 1, rfl, rfl, by omega, rfl, ?_⟩
    rw [List.take_add_one, ha]
    simp only [Option.toList_some, List.mem_append, List.mem_singleton, not_or]
    exact ⟨hz, fun e => h0 e.symm⟩

/-! ### bytes of a sketch as it is read -/
def bL (L : List W32) : List UInt8 := skB (fun i => L.getD i 0) L.length
theorem skB_congr {f g : Nat → W32} : ∀ {n : Nat}, (∀ i, i < n → f i = g i) → skB f n = skB g n
  | 0, _ => rfl
  | n + 1, h => by simp only [skB]; rw [skB_congr fun i hi => h i (by omega), h n (by omega)]
theorem bL_fn (n : Nat) (f : Nat → W32) : bL (fnL n f) = skB f n := by
  unfold bL
  rw [fnL_len]
  exact skB_congr fun i hi => fnL_co f hi
theorem pR_w (L : List W32) : pR L = wRows (fun i => L.getD i 0) L.length := by
  apply List.ext_getElem?
  intro i
  by_cases h : i < L.length
  · rw [wRows_at _ h, pR_at (w := L.getD i 0) (by rw [List.getD_eq_getElem?_getD, List.getElem?_eq_getElem h]; rfl)]
  · rw [List.getElem?_eq_none (by rw [pR_len]; omega), List.getElem?_eq_none (by rw [wRows_len]; omega)]
def InvSbR (σ : St) (v0 : V) (L : List W32) (m : Nat) (e : Env) (s : St) : Prop := ∃ (i : Nat) (v : V), e = [(3, v), (7, v0), (8, I L.length), (9, I i)] ∧ m = L.length - i ∧ i ≤ L.length ∧ Two σ s 1 1 v (.d .nils) (byteRows (skB (fun i => L.getD i 0) i)) []
def InvSb2R (σ : St) (v0 : V) (L : List W32) (i : Nat) (m : Nat) (e : Env) (s : St) : Prop := ∃ (k : Nat) (v : V), e = [(3, v), (5, Xw (L.getD i 0)), (7, v0), (8, I L.length), (9, I i), (13, I k)] ∧ m = 4 - k ∧ k ≤ 4 ∧ Two σ s 1 1 v (.d .nils) (byteRows (skB (fun i => L.getD i 0) i ++ (le4 (L.getD i 0)).take k)) []
theorem s_bytesR {σ : St} {v0 : V} {L : List W32} (h : Rd σ v0 L) (hn : L.length ≤ 1000) : Dn.Call Γ cx .rd 41 [v0] σ fun v _ => ∃ d, v = .d d ∧ LV (.d d) (byteRows (bL L)) := by
  refine Dn.Call.body (fc := c41) rfl ?_
  have hlv := fun σ => h.len σ
  simp -implicitDefEqProofs [c41, c41_k13, c41_k12, hlv, c41_k11]
  refine wloopI (InvSbR σ v0 L) (m := L.length) ⟨0, _, rfl, rfl, by omega, Two.nil σ 1 1⟩ ?_
  rintro m e s ⟨i, v, rfl, rfl, hi, hT⟩
  have hrd : Rd s v0 L := h.fr hT.fr
  rcases hin : decide ((i : Int) < L.length) with _ | _
  · have hlt : ¬ (i : Int) < L.length := of_decide_eq_false hin
    obtain rfl : i = L.length := by omega
    have hdv := hT.pa.lv.dv s
    obtain ⟨d, hd⟩ := hdv.2.2.1
    simp -implicitDefEqProofs [hlt, c41_l10, c41_k9, c41_k0, hT.pa.lv.byValN, hdv.1]
    exact ⟨hT.keeps, d, hd, hd ▸ hdv.2.1⟩
  have hlt : (i : Int) < L.length := of_decide_eq_true hin
  obtain ⟨w, hw⟩ : ∃ w, L[i]? = some w := ⟨_, List.getElem?_eq_getElem (by omega)⟩
  obtain ⟨ad, ha1, ha2⟩ := hrd.at hw
  have hgw : L.getD i 0 = w := getD_at hw
  have w9 : IntKind.i64.wrap ((i : Int) + 1) = ((i + 1 : Nat) : Int) := by rw [wrap_i64 (by omega) (by omega)]; omega
  simp -implicitDefEqProofs [-loadAt, hlt, c41_l10, c41_k9, c41_k8, ha1, ha2, c41_k7, c41_k6]
  refine wloopI (InvSb2R σ v0 L i) (m := 4) ⟨0, v, by rw [hgw]; rfl, rfl, by omega, by simpa using hT⟩ ?_
  rintro m e s2 ⟨k, v2, rfl, rfl, hk, hT2⟩
  rw [hgw] at hT2 ⊢
  by_cases hk4 : k < 4
  rotate_left
  · obtain rfl : k = 4 := by omega
    simp -implicitDefEqProofs [c41_l5, c41_k4, w9]
    refine ⟨L.length - (i + 1), by omega, i + 1, v2, rfl, rfl, by omega, ?_⟩
    have : skB (fun i => L.getD i 0) (i + 1) = skB (fun i => L.getD i 0) i ++ (le4 w).take 4 := by
      simp only [skB, hgw]
      rfl
    rw [this]
    exact hT2
  have hkk : (k : Int) < 4 := by omega
  have h8 : IntKind.i64.wrap (8 * (k : Int)) = ((8 * k : Nat) : Int) := by rw [wrap_i64 (by omega) (by omega)]; omega
  have hsr := shr_32 w (8 * k) (by omega)
  have hc8 : IntKind.u8.wrap (un (w >>> (8 * k))) = ((bt w k).toNat : Int) := by
    have := wrap_u8n (w >>> (8 * k)).toNat
    simp only [un] at this ⊢
    rw [this]
    simp [bt]
  have hle : (le4 w).take (k + 1) = (le4 w).take k ++ [bt w k] := by
    match k, hk4 with
    | 0, _ | 1, _ | 2, _ | 3, _ => rfl
  have hln := skB_len (fun i => L.getD i 0) i
  have hlt4 : (byteRows (skB (fun i => L.getD i 0) i ++ (le4 w).take k)).length ≤ 4 * i + 4 := by
    rw [byteRows_len, List.length_append, List.length_take, hln]
    omega
  obtain ⟨v3, s3, hap, hT3, ho3⟩ := hT2.push (bytes := 1) (by decide) (byteRows_fit _) (y := [.int .u8 (bt w k).toNat]) rfl (by have := hlt4; omega) (by have := hlt4; omega)
  rw [show byteRows (skB (fun i => L.getD i 0) i ++ (le4 w).take k) ++ [[.int .u8 (bt w k).toNat]] = byteRows (skB (fun i => L.getD i 0) i ++ (le4 w).take (k + 1)) by rw [hle, ← List.append_assoc, byteRows_app _ [bt w k]]; rfl] at hT3
  obtain ⟨k8, hk8⟩ : ∃ k8, 8 * k = k8 := ⟨_, rfl⟩
  rw [hk8] at h8 hsr hc8
  clear hk4
  simp -implicitDefEqProofs [hkk, c41_l5, c41_k4, c41_k3, c41_k2, c41_k1, h8, hsr, hc8, repl, rowsOf, frzV]
  refine i_app_f (v := v3) (s := s3) ?_ ?_
  · simp -implicitDefEqProofs [V.rows]
    exact hap none
  simp -implicitDefEqProofs [wrap_i64 (n := (k : Int) + 1) (by omega) (by omega)]
  exact ⟨4 - (k + 1), by omega, k + 1, v3, by rw [hgw]; rfl, rfl, by omega, by rw [hgw]; exact hT3⟩
theorem s_bytesOfR {σ : St} {y : Nat} {v : V} {L : List W32} (h : SkR σ y v L) (hn : L.length ≤ 1000) : Dn.Call Γ cx .rd 18 [.ref y 0] σ fun v _ => ∃ d, v = .d d ∧ LV (.d d) (byteRows (bL L)) := by
  refine Dn.Call.body (fc := c18) rfl ?_
  simp -implicitDefEqProofs [c18, c18_k2, eqV, V.isNil, Opd.isC, c18_k1, c18_k0, nilCheckV, h.o]
  refine use_rd' (s_bytesR h.r hn) fun v s ⟨d, hv, hd⟩ => ?_
  subst hv
  simp -implicitDefEqProofs
  exact ⟨⟨fun i hi => rfl, fun t k ht => ht⟩, hd⟩
theorem s_rBytesL {x : D} {L : List W32} (hn : L.length ≤ 1000) (hx : PL x L) : Dn.Call Γ cx .val 20 [.d x] St.empty fun v _ => ∃ d, v = .d d ∧ LV (.d d) (byteRows (bL L)) :=
  s_rBytes hn (by rw [← pR_w]; exact hx)
theorem conv_bytes {σ : St} {d : D} {l : List UInt8} (h : LV (.d d) (byteRows l)) : evalConv σ .bytesStr (.d d) = some (.d (.str l)) := by
  simp only [evalConv, h.rows σ, rowBytes_byteRows]

/-! ### alive -/
theorem Valid.sorted_unique {L T T' : List W32} (h : Valid L T) (h' : Valid L T') (s : T.Pairwise fun a b => un a ≤ un b) (s' : T'.Pairwise fun a b => un a ≤ un b) : T = T' :=
  List.Perm.eq_of_pairwise (le := fun a b => un a ≤ un b) (fun a b _ _ h1 h2 => by rw [← wof_un a, ← wof_un b, show un a = un b by omega]) s s' (h.unique h')
theorem alive_valid : Valid (fnL 2 (osum [1#32, 2#32])) [1#32, 2#32] := ⟨by decide, by decide, by rw [fnL_len]; simp, fun k hk => by
  rw [fnL_len] at hk
  rw [fnL_co _ hk]⟩
theorem alive_bytes : bL (fnL 2 (osum [1#32, 2#32])) = [3, 0, 0, 0, 9, 0, 0, 0] := by decide +kernel
theorem s_alive : Dn.Call Γ cx .val 9 [] St.empty fun v _ => v = B true := by
  refine Dn.Call.body (fc := c9) rfl ?_
  have hids : [1#32, 2#32].map un = [1, 2] := rfl
  have hur : uRows [1, 2] = [[.int .u32 1], [.int .u32 2]] := rfl
  simp -implicitDefEqProofs [c9, c9_k4, isObj, repl, rowsOf, frzV]
  refine use_raw (s_skNew (n := 2) (ids := [1, 2]) (by omega) (by omega) (v := .fl [[.int .u32 1], [.int .u32 2]]) (.fl _) (by simp) (by simp) (by simp)) fun w s ⟨hw, hSk, hf, ht⟩ => ?_
  subst hw
  rw [← hids, acc_osum] at hSk
  have hR := hSk.toR (by omega)
  simp at hR
  simp -implicitDefEqProofs [c9_k3, eqV, V.isNil, Opd.isC, c9_k2, c9_k1]
  refine use_raw (s_Decode hR (by rw [fnL_len]; omega) (by rw [fnL_len]; omega)) fun w s2 ⟨hd, hf2, ht2⟩ => ?_
  have hR2 := hR.fr hf2
  rcases hd with ⟨-, h1⟩ | ⟨d, T, rfl, h1, h2, h3⟩
  · exact absurd alive_valid (h1 _)
  have hT := h2.sorted_unique alive_valid h3 (by decide)
  subst hT
  have hw := s_WordsW (X := [1#32, 2#32]) (Y := [1#32, 2#32]) (y := .list [[.int .u32 1], [.int .u32 2]]) h1 (.list _) (by simp) (by simp)
  simp at hw
  simp -implicitDefEqProofs [c9_k0, eqV, V.isNil, Opd.isC, isObj, repl, rowsOf, frzV]
  refine use_fn (ds := [.d d, .d (.list [[.int .u32 1], [.int .u32 2]])]) rfl hw rfl ?_
  simp -implicitDefEqProofs
  refine use_rd' (s_bytesOfR hR2 (by rw [fnL_len]; omega)) fun w s3 ⟨x, hw, hx⟩ => ?_
  subst hw
  rw [alive_bytes] at hx
  have hcv := fun σ => conv_bytes (σ := σ) hx
  simp -implicitDefEqProofs [-evalConv, hcv, strBin]
end Go.Proofs.Ytmlkdfjojoophaa.T

namespace Go.Proofs.Ytmlkdfjojoophaa.T
open Go.Dn
set_option linter.unusedSimpArgs false
set_option linter.unusedVariables false

/-! ### lists of bytes -/
theorem lv_list {d : D} {rows : List (List D)} (h : LV (.d d) rows) (hne : rows ≠ []) : d = .list rows := by
  cases h with
  | nil => exact absurd rfl hne
  | list => rfl
theorem skB_ne (f : Nat → W32) {n : Nat} (h : 1 ≤ n) : byteRows (skB f n) ≠ [] := by
  intro e
  have := congrArg List.length e
  rw [byteRows_len, skB_len] at this
  simp at this
  omega

/-! ### arguments; New, whatever is asked -/
abbrev wordsK : Lk := .list [.int .u32]
theorem words_fit {d : D} (h : wordsK.fits d) : ∃ L : List W32, PL d L := by
  simp only [Lk.fits] at h
  rcases h with rfl | ⟨rows, rfl, -, hr⟩
  · exact ⟨[], .nil⟩
  · have : ∀ rows : List (List D), (∀ row ∈ rows, Lks [.int .u32] row) → ∃ L : List W32, rows = pR L := by
      intro rows
      induction rows with
      | nil => exact fun _ => ⟨[], rfl⟩
      | cons r rows ih =>
        intro h
        obtain ⟨L, rfl⟩ := ih fun row hr => h row (by simp [hr])
        have h0 := h r (by simp)
        simp only [Lks, Lk.fits] at h0
        obtain ⟨d, _, rfl, ⟨n, rfl, h1, h2⟩, rfl⟩ := h0
        have e1 : IntKind.u32.min = 0 := rfl
        have e2 : IntKind.u32.max = 4294967295 := rfl
        refine ⟨wof n :: L, ?_⟩
        simp only [pR, List.map_cons]
        rw [un_wof (by omega) (by omega)]
    obtain ⟨L, rfl⟩ := this rows hr
    exact ⟨L, .list _⟩
theorem bytes_fit {d : D} (h : (Lk.list [.int .u8]).fits d) : ∃ l : List UInt8, LV (.d d) (byteRows l) := by
  simp only [Lk.fits] at h
  rcases h with rfl | ⟨rows, rfl, -, hr⟩
  · exact ⟨[], .nil⟩
  · obtain ⟨l, rfl⟩ := bytes_of_fits hr
    exact ⟨l, .list _⟩
def badN (n : Int) (L : List W32) : Prop := n < 1 ∨ 40 < n ∨ (0 : W32) ∈ L
def newQ (σ : St) (n : Int) (L : List W32) : Post := fun w s => (badN n L ∧ w = .tup [.d .nilp, errV 1] ∨ ¬ badN n L ∧ ∃ y r, w = .tup [.ref y 0, .d .nili] ∧ Sk s y r n.toNat (osum L) ∧ y ≠ r) ∧ Fr [] σ s ∧ s.toks = σ.toks
theorem s_newW {σ : St} {n : Int} {v : V} {L : List W32} (hv : LV v (pR L)) (hl : L.length ≤ 1000) : Dn.Call Γ cx .raw 11 [I n, v] σ (newQ σ n L) := by
  by_cases hn : n < 1 ∨ 40 < n
  · refine Dn.Call.mono (fun w s ⟨hw, hs⟩ => ?_) (s_skBad hn (v := v) hv.cells)
    subst hs
    exact ⟨.inl ⟨by unfold badN; omega, hw⟩, Fr.refl _ _, rfl⟩
  obtain ⟨k, rfl⟩ : ∃ k : Nat, n = (k : Int) := ⟨n.toNat, by omega⟩
  have hvI : LV v (uRows (L.map un)) := by rw [uRows_map]; exact hv
  by_cases hz : (0 : W32) ∈ L
  · exact Dn.Call.mono (fun w s ⟨hw, hf, ht⟩ => ⟨.inl ⟨.inr (.inr hz), hw⟩, hf, ht⟩) (s_skNewZ (by omega) (by omega) hvI ((un_zero_mem L).2 hz) (by simpa using hl))
  · refine Dn.Call.mono (fun w s ⟨hw, hS, hf, ht⟩ => ⟨.inr ⟨?_, _, _, hw, ?_, Nat.succ_ne_self _⟩, hf, ht⟩) (s_skNew (by omega) (by omega) hvI (un_bound L) (fun e => hz ((un_zero_mem L).1 e)) (by simpa using hl))
    · unfold badN
      rintro (h | h | h)
      · omega
      · omega
      · exact hz h
    · rw [acc_osum] at hS
      exact hS

/-! lists put together, by appends onto an empty one -/
end Go.Proofs.Ytmlkdfjojoophaa.T

namespace Go.Proofs.Ytmlkdfjojoophaa.T
open Go.Dn
attribute [local simp] body_eq globEnv GB List.map_nil List.map_cons List.append_nil w_rangeF i_next i_makeMap i_range i_update i_delete i_entry i_clone entryV cloneV q_rndA q_rndB_n q_rndB_e q_rndB_r setAll w_skip w_ops w_seq w_cond w_block w_exit w_ret q_then_n q_then_e q_then_r q_blk_n q_blk_e q_blk_r q_ops q_cont q_end_n q_end_r q_end_e q_loop_n q_loop_e q_loop_r i_nil i_p i_alloc i_box i_store i_copy i_clear i_call i_callv i_when t_nil t_p t_call t_alloc t_box t_store kept_nil t_copy t_clear q_tcont gsel List.cons_append List.nil_append evalP evalE evalF evalB isObj thaw Opd.ev Env.get Env.set Env.pick putE initEnv evalBin intBin evalUn evalConv goneAll goneOne retV resAll Res.ev tupOf byVals byValsN bv_d bv_da bv_fl bv_tl bn_d bn_da bn_fl bn_tl cx Dn.newObj St.place St.push St.spot St.empty cell_d cell_da cell_agg cell_ref cell_sl cell_fl cell_tl cell_map cell_fn cell_ifc loadAt faddrV partOf extractV mkAgg ofD splice St.setObj fillV
set_option linter.unusedSimpArgs false
set_option linter.unusedVariables false

/-! ### Empty -/
theorem s_nonzero (w : W32) : Dn.Call Γ cx .val 50 [Xw w] St.empty fun v _ => v = B (decide (w ≠ 0)) := by
  refine Dn.Call.body (fc := c50) rfl ?_
  by_cases h0 : w = 0
  · subst h0
    have hu : un (0#32) = 0 := rfl
    simp -implicitDefEqProofs [c50, c50_k0, hu]
  · have hu : ¬ un w = 0 := fun e => h0 ((un_zero_iff w).1 e)
    have h0' : ¬ w = 0#32 := h0
    simp -implicitDefEqProofs [c50, c50_k0, hu, h0']
abbrev fE : V := .fn (.func 50) [] []
def InvIx (σ : St) (v : V) (L : List W32) (m : Nat) (e : Env) (s : St) : Prop := ∃ i : Nat, e = [(0, v), (1, fE), (7, I L.length), (8, I i)] ∧ m = L.length - i ∧ i ≤ L.length ∧ s = σ ∧ ∀ x ∈ L.take i, x = 0
theorem s_IndexF {σ : St} {v : V} {L : List W32} (h : Rd σ v L) (hl : L.length ≤ 100000) : Dn.Call Γ cx .rd 69 [v, fE] σ fun w _ => (w = I (-1) ∧ ∀ x ∈ L, x = 0) ∨ ∃ i : Nat, w = I i ∧ ¬ ∀ x ∈ L, x = 0 := by
  refine Dn.Call.body (fc := c69) rfl ?_
  have hlv := fun σ => h.len σ
  simp -implicitDefEqProofs [c69, c69_k7, hlv, c69_k6]
  refine wloopI (InvIx σ v L) (m := L.length) ⟨0, rfl, rfl, by omega, rfl, by simp⟩ ?_
  rintro m e s ⟨i, rfl, rfl, hi, rfl, hz⟩
  rcases hin : decide ((i : Int) < L.length) with _ | _
  · have hlt : ¬ (i : Int) < L.length := of_decide_eq_false hin
    obtain rfl : i = L.length := by omega
    rw [List.take_length] at hz
    simp -implicitDefEqProofs [hlt, c69_l5, c69_k4]
    exact ⟨⟨fun i hi => rfl, fun t k ht => ht⟩, hz⟩
  have hlt : (i : Int) < L.length := of_decide_eq_true hin
  obtain ⟨w, hw⟩ : ∃ w, L[i]? = some w := ⟨_, List.getElem?_eq_getElem (by omega)⟩
  obtain ⟨ad, ha1, ha2⟩ := h.at hw
  have w9 : IntKind.i64.wrap ((i : Int) + 1) = ((i + 1 : Nat) : Int) := by rw [wrap_i64 (by omega) (by omega)]; omega
  simp -implicitDefEqProofs [-loadAt, hlt, c69_l5, c69_k4, c69_k3, c69_k2, c69_k1, ha1, ha2]
  refine use_fn (ds := [Xw w]) rfl (s_nonzero w) rfl ?_
  by_cases h0 : w = 0
  · have h0' : w = 0#32 := h0
    simp -implicitDefEqProofs [h0', c69_k0, w9]
    refine ⟨L.length - (i + 1), by omega, i + 1, rfl, rfl, by omega, rfl, ?_⟩
    rw [List.take_add_one, hw]
    intro x hx
    rcases List.mem_append.1 hx with hx | hx
    · exact hz x hx
    · simp at hx
      rw [hx]; exact h0
  · have h0' : ¬ w = 0#32 := h0
    simp -implicitDefEqProofs [h0', c69_k0]
    exact ⟨⟨fun i hi => rfl, fun t k ht => ht⟩, ⟨i, rfl⟩, w, List.mem_of_getElem? hw, h0⟩
theorem s_ContainsF {σ : St} {v : V} {L : List W32} (h : Rd σ v L) (hl : L.length ≤ 100000) : Dn.Call Γ cx .rd 49 [v, fE] σ fun w _ => w = B (decide (¬ ∀ x ∈ L, x = 0)) := by
  refine Dn.Call.body (fc := c49) rfl ?_
  simp -implicitDefEqProofs [c49, c49_k0]
  refine use_rd' (s_IndexF h hl) fun w s hw => ?_
  rcases hw with ⟨rfl, hz⟩ | ⟨i, rfl, hz⟩
  · have : decide (∃ x, x ∈ L ∧ ¬ x = 0) = false := decide_eq_false fun ⟨x, h1, h2⟩ => h2 (hz x h1)
    simp -implicitDefEqProofs [hz]
    exact ⟨⟨fun i hi => rfl, fun t k ht => ht⟩, hz⟩
  · have h0 : (0 : Int) ≤ i := by omega
    simp -implicitDefEqProofs [hz, h0]
    exact ⟨⟨fun i hi => rfl, fun t k ht => ht⟩, by simpa using hz⟩
theorem s_Empty {σ : St} {y : Nat} {v : V} {L : List W32} (h : SkR σ y v L) (hl : L.length ≤ 100000) : Dn.Call Γ cx .rd 23 [.ref y 0] σ fun w _ => w = B (decide (∀ x ∈ L, x = 0)) := by
  refine Dn.Call.body (fc := c23) rfl ?_
  simp -implicitDefEqProofs [c23, c23_k0, eqV, V.isNil, Opd.isC, nilCheckV, h.o]
  refine use_rd (s_ContainsF h.r hl) ?_
  simp -implicitDefEqProofs
  refine ⟨⟨fun i hi => rfl, fun t k ht => ht⟩, ?_⟩
  by_cases hz : ∀ x, x ∈ L → x = 0#32
  · rw [decide_eq_true hz, Bool.not_true, decide_eq_false_iff_not]
    exact fun ⟨x, h1, h2⟩ => h2 (hz x h1)
  · rw [decide_eq_false hz, Bool.not_false, decide_eq_true_eq]
    exact Classical.byContradiction fun h => hz fun x hx => Classical.byContradiction fun h2 => h ⟨x, hx, h2⟩

/-! ### Copy -/
/-! ### no sketch -/
end Go.Proofs.Ytmlkdfjojoophaa.T

namespace Go.Proofs.Ytmlkdfjojoophaa.T
open Go.Dn
attribute [local simp] body_eq globEnv GB List.map_nil List.map_cons List.append_nil w_rangeF i_next i_makeMap i_range i_update i_delete i_entry i_clone entryV cloneV q_rndA q_rndB_n q_rndB_e q_rndB_r setAll w_skip w_ops w_seq w_cond w_block w_exit w_ret q_then_n q_then_e q_then_r q_blk_n q_blk_e q_blk_r q_ops q_cont q_end_n q_end_r q_end_e q_loop_n q_loop_e q_loop_r i_nil i_p i_alloc i_box i_store i_copy i_clear i_call i_callv i_when t_nil t_p t_call t_alloc t_box t_store kept_nil t_copy t_clear q_tcont gsel List.cons_append List.nil_append evalP evalE evalF evalB isObj thaw Opd.ev Env.get Env.set Env.pick putE initEnv evalBin intBin evalUn evalConv goneAll goneOne retV resAll Res.ev tupOf byVals byValsN bv_d bv_da bv_fl bv_tl bn_d bn_da bn_fl bn_tl cx Dn.newObj St.place St.push St.spot St.empty cell_d cell_da cell_agg cell_ref cell_sl cell_fl cell_tl cell_map cell_fn cell_ifc loadAt faddrV partOf extractV mkAgg ofD splice St.setObj fillV
set_option linter.unusedSimpArgs false
set_option linter.unusedVariables false
open Sip (num num_lt num_take)

/-! ### words of bytes -/
def w4 (l : List UInt8) : W32 := BitVec.ofNat 32 (num l)
def chk (l : List UInt8) (i : Nat) : List UInt8 := (l.drop (i * 4)).take 4
def wds (l : List UInt8) (n : Nat) : List W32 := fnL n fun i => w4 (chk l i)
def words (l : List UInt8) : List W32 := wds l (l.length / 4)
theorem wds_len (l : List UInt8) (n : Nat) : (wds l n).length = n := fnL_len _ _
theorem words_len (l : List UInt8) : (words l).length = l.length / 4 := wds_len _ _
theorem wds_succ (l : List UInt8) (n : Nat) : wds l (n + 1) = wds l n ++ [w4 (chk l n)] := by simp [wds, fnL, List.range_succ]
theorem chk_len {l : List UInt8} {i : Nat} (h : i * 4 + 4 ≤ l.length) : (chk l i).length = 4 := by simp [chk]; omega
theorem num_bound {l : List UInt8} (h : l.length ≤ 4) : num l < 4294967296 := by
  have := num_lt l
  have h2 : 256 ^ l.length ≤ 256 ^ 4 := Nat.pow_le_pow_right (by decide) h
  omega
theorem un_w4 {l : List UInt8} (h : l.length ≤ 4) : un (w4 l) = (num l : Int) := by
  have := num_bound h
  simp only [un, w4, BitVec.toNat_ofNat]
  rw [Nat.mod_eq_of_lt (by omega)]
theorem four (l : List UInt8) (h : l.length = 4) : ∃ a b c d, l = [a, b, c, d] := by
  match l, h with
  | [a, b, c, d], _ => exact ⟨a, b, c, d, rfl⟩
theorem le4_w4 {l : List UInt8} (h : l.length = 4) : le4 (w4 l) = l := by
  obtain ⟨a, b, c, d, rfl⟩ := four l h
  have ha := a.toNat_lt
  have hb := b.toNat_lt
  have hc := c.toNat_lt
  have hd := d.toNat_lt
  have hn : (w4 [a, b, c, d]).toNat = a.toNat + 256 * (b.toNat + 256 * (c.toNat + 256 * d.toNat)) := by
    have : num [a, b, c, d] = a.toNat + 256 * (b.toNat + 256 * (c.toNat + 256 * d.toNat)) := by simp [num]
    simp only [w4, BitVec.toNat_ofNat, this]
    omega
  unfold le4
  have e0 : bt (w4 [a, b, c, d]) 0 = a := UInt8.toNat_inj.1 (by rw [bt_nat, hn]; simp <;> omega)
  have e1 : bt (w4 [a, b, c, d]) 1 = b := UInt8.toNat_inj.1 (by rw [bt_nat, hn]; simp <;> omega)
  have e2 : bt (w4 [a, b, c, d]) 2 = c := UInt8.toNat_inj.1 (by rw [bt_nat, hn]; simp <;> omega)
  have e3 : bt (w4 [a, b, c, d]) 3 = d := UInt8.toNat_inj.1 (by rw [bt_nat, hn]; simp <;> omega)
  rw [e0, e1, e2, e3]
theorem skB_words (l : List UInt8) : ∀ {n : Nat}, n * 4 ≤ l.length → skB (fun i => w4 (chk l i)) n = l.take (n * 4)
  | 0, _ => by simp [skB]
  | n + 1, h => by
    simp only [skB]
    rw [skB_words l (by omega), le4_w4 (chk_len (by omega)), show (n + 1) * 4 = n * 4 + 4 by omega, List.take_add]
    rfl
theorem bL_words {l : List UInt8} (h : l.length % 4 = 0) : bL (words l) = l := by
  unfold words wds
  rw [bL_fn, skB_words l (by omega), List.take_of_length_le (by omega)]

/-! ### sums -/
def sumE : Env := [(4, .ref 0 0)]
def InvSm (d : D) (l : List UInt8) (i : Nat) (s : St) : Prop := ∃ v tk, s = ⟨[.cells [v], .cells [.d d], .cells [I 4], .loop sumE [15] c42_a1 c42_b11 .ready], tk⟩ ∧ App s 1 v (pR (wds l i))
theorem sums_a {e : Env} {s : St} {Q : PostC} (h : Q .normal ((putE e (some 5) (e.get 15)).pick [4, 5]) s) : wcode (Dn.Call Γ cx) cx c42_a1 e s Q := by
  simp only [c42_a1, w_ops, i_p, isObj, Bool.false_eq_true, if_false, evalP, Opd.ev, i_nil, q_ops]
  exact h
theorem or_nat32 (m c i : Nat) (hm : m < 2 ^ (8 * i)) (hi : i < 4) (hc : c < 256) : bits .or .u32 (m : Int) ((c * 2 ^ (8 * i) : Nat) : Int) = ((m + c * 2 ^ (8 * i) : Nat) : Int) := by
  have hp : 2 ^ (8 * i) * 256 ≤ 2 ^ 32 := by
    have : 2 ^ (8 * i) * 2 ^ 8 = 2 ^ (8 * i + 8) := by rw [← Nat.pow_add]
    have h2 : 2 ^ (8 * i + 8) ≤ 2 ^ 32 := Nat.pow_le_pow_right (by decide) (by omega)
    omega
  have hcm : c * 2 ^ (8 * i) ≤ 255 * 2 ^ (8 * i) := Nat.mul_le_mul_right _ (by omega)
  have e1 : (m : Int) = un (BitVec.ofNat 32 m) := by
    simp only [un, BitVec.toNat_ofNat]
    rw [Nat.mod_eq_of_lt (by omega)]
  have e2 : ((c * 2 ^ (8 * i) : Nat) : Int) = un (BitVec.ofNat 32 (c * 2 ^ (8 * i))) := by
    simp only [un, BitVec.toNat_ofNat]
    rw [Nat.mod_eq_of_lt (by omega)]
  rw [e1, e2, or_u32]
  simp only [un, BitVec.toNat_or, BitVec.toNat_ofNat]
  rw [Nat.mod_eq_of_lt (by omega), Nat.mod_eq_of_lt (by omega)]
  have := Nat.two_pow_add_eq_or_of_lt hm c
  rw [Nat.or_comm, Nat.mul_comm c, ← this, Nat.add_comm]
def InvCk (l : List UInt8) (sx : St) (m : Nat) (e : Env) (s : St) : Prop := ∃ i : Nat, e = [(4, .ref 0 0), (6, X (num (l.take i))), (16, .fl (byteRows l)), (17, I l.length), (18, I i)] ∧ i ≤ l.length ∧ m = l.length - i ∧ s = sx
theorem sums_b {s s' : St} {v v' : V} {l : List UInt8} {Q : PostC} (h0 : s.objs[0]? = some (.cells [v])) (hl : l.length ≤ 4) (hap : ∀ tg, appendV s tg 1 4 v (pR [w4 l]) = some (v', s')) (ho : s'.objs = s.objs) (hc : v'.cells = some [v'])
    (hQ : Q .normal [] ⟨s.objs.set 0 (.cells [v']), s'.toks⟩) : wcode (Dn.Call Γ cx) cx c42_b11 [(4, .ref 0 0), (5, .fl (byteRows l))] s Q := by
  have hv : LV (.fl (byteRows l)) (byteRows l) := .fl _
  have hlen : ∀ σ, lenT σ .slice (.fl (byteRows l)) = some l.length := fun σ => by rw [hv.len, byteRows_len]
  simp -implicitDefEqProofs [c42_b11, c42_k10, c42_k9, c42_k8, hlen]
  refine wloopI (InvCk l s) (m := l.length) ⟨0, rfl, by omega, by omega, rfl⟩ ?_
  rintro m e σ ⟨i, rfl, hi, rfl, rfl⟩
  simp -implicitDefEqProofs [c42_l7, c42_k6]
  by_cases hil : i < l.length
  rotate_left
  · obtain rfl : i = l.length := by omega
    have hun := un_w4 hl
    have h0' : s'.objs[0]? = some (.cells [v]) := by rw [ho]; exact h0
    simp -implicitDefEqProofs [c42_k2, h0, repl, rowsOf, frzV]
    refine i_app_f (v := v') (s := s') ?_ ?_
    · have := hap none
      simp only [pR, List.map_cons, List.map_nil, hun] at this
      simp [evalE, Opd.ev, Env.get, V.rows]
      exact this
    simp -implicitDefEqProofs [h0', hc]
    rw [ho]
    exact hQ
  obtain ⟨b, hb⟩ : ∃ b, l[i]? = some b := ⟨l[i], by simp [hil]⟩
  have hia := fun σ => hv.iaddr σ (k := .i64) (i := i) (byteRows_at hb) (sz := 1) rfl
  have hbl := b.toNat_lt
  have hnt := num_take hb
  have hnl := num_lt (l.take i)
  have e256 : 256 ^ i = 2 ^ (8 * i) := by rw [show 256 = 2 ^ 8 from rfl, ← Nat.pow_mul]
  rw [List.length_take, Nat.min_eq_left hi, e256] at hnl
  rw [e256] at hnt
  have hor := or_nat32 (num (l.take i)) b.toNat i hnl (by omega) hbl
  have w1 : IntKind.u32.wrap (b.toNat : Int) = (b.toNat : Int) := by
    simp only [IntKind.wrap, IntKind.signed, IntKind.bits]; simp; omega
  have w2 : IntKind.i64.wrap (8 * (i : Int)) = ((8 * i : Nat) : Int) := by rw [wrap_i64 (by omega) (by omega)]; omega
  have hsh : shiftBin .shl .u32 (b.toNat : Int) ((8 * i : Nat) : Int) = some (X ((b.toNat * 2 ^ (8 * i) : Nat) : Int)) := by
    have e1 : (b.toNat : Int) = un (BitVec.ofNat 32 b.toNat) := by
      simp only [un, BitVec.toNat_ofNat]
      rw [Nat.mod_eq_of_lt (by omega)]
    rw [e1, shl_32 _ _ (by omega)]
    have hp : 2 ^ (8 * i) * 256 ≤ 2 ^ 32 := by
      have : 2 ^ (8 * i) * 2 ^ 8 = 2 ^ (8 * i + 8) := by rw [← Nat.pow_add]
      have h2 : 2 ^ (8 * i + 8) ≤ 2 ^ 32 := Nat.pow_le_pow_right (by decide) (by omega)
      omega
    have hcm : b.toNat * 2 ^ (8 * i) ≤ 255 * 2 ^ (8 * i) := Nat.mul_le_mul_right _ (by omega)
    simp only [Xw, X, un, BitVec.toNat_shiftLeft, BitVec.toNat_ofNat, Nat.shiftLeft_eq]
    rw [Nat.mod_eq_of_lt (a := b.toNat) (by omega), Nat.mod_eq_of_lt (by omega)]
  obtain ⟨sh, hshd⟩ : ∃ sh : Nat, 8 * i = sh := ⟨_, rfl⟩
  rw [hshd] at w2 hsh hor hnt
  obtain ⟨y, hy⟩ : ∃ y : Nat, b.toNat * 2 ^ sh = y := ⟨_, rfl⟩
  rw [hy] at hsh hor
  rw [Nat.mul_comm, hy] at hnt
  rw [← hnt] at hor
  simp -implicitDefEqProofs [hil, c42_k5, c42_k4, hia, c42_k3, w1, w2, hsh, hor, wrap_i64 (n := (i : Int) + 1) (by omega) (by omega)]
  exact ⟨l.length - (i + 1), by omega, i + 1, rfl, by omega, rfl, rfl⟩
theorem app_vcells {s : St} {sz : Nat} {v : V} {rows : List (List D)} (h : App s sz v rows) : v.cells = some [v] := by
  cases h <;> rfl
def sumS (v : V) (d : D) (tk : List Nat) (st : Dn.LSt) : St := ⟨[.cells [v], .cells [.d d], .cells [I 4], .loop sumE [15] c42_a1 c42_b11 st], tk⟩
theorem s_sums {d : D} {l : List UInt8} (hd : LV (.d d) (byteRows l)) (hl : l.length ≤ 100000) : Dn.Call Γ cx .val 42 [.d d] St.empty fun w _ => (l.length % 4 ≠ 0 ∧ w = .tup [.d .nils, B false]) ∨ (l.length % 4 = 0 ∧ ∃ x, w = .tup [.d x, B true] ∧ PL x (words l)) := by
  refine Dn.Call.body (fc := c42) rfl ?_
  have hlen : ∀ σ, lenT σ .slice (.d d) = some l.length := fun σ => by rw [hd.len, byteRows_len]
  have hrem : (l.length : Int).tmod 4 = ((l.length % 4 : Nat) : Int) := rfl
  have hbl := byteRows_len l
  by_cases h4 : l.length % 4 = 0
  rotate_left
  · have e0 : ¬ (((l.length % 4 : Nat) : Int) = 0) := by omega
    obtain ⟨q, hq⟩ : ∃ q, l.length % 4 = q := ⟨_, rfl⟩
    rw [hq] at hrem h4 e0
    simp -implicitDefEqProofs [c42, c42_k16, hlen, hrem, h4, e0, c42_k15]
    omega
  have hrem0 : (l.length : Int).tmod 4 = 0 := by rw [hrem, h4]; rfl
  simp -implicitDefEqProofs [c42, c42_k16, hlen, hrem0, c42_k15, c42_k14, c42_k13]
  refine use_raw (s_Chunk (v := .d d) (n := 4) (by omega) rfl) fun w s ⟨hw, hs⟩ => ?_
  subst hw hs
  simp -implicitDefEqProofs [c42_k12]
  refine ⟨_, s_Chunk1 (n := 4) (by omega) (by omega) hd (byteRows_fit _) (by rintro r t st s h; cases h) (by omega) (InvSm d l) ?_ ?_ ?_, ?_⟩
  · exact ⟨_, _, rfl, .nil⟩
  · rintro i s ⟨v, tk, rfl, hA⟩
    exact ⟨rfl, rfl⟩
  · rintro i s ⟨v, tk, rfl, hA⟩ hi
    rw [hbl] at hi
    refine Call.rnd (e := sumE) (ps := [15]) (a := c42_a1) (b := c42_b11) rfl rfl ?_
    refine sums_a ?_
    simp only [q_rndA]
    refine ⟨rfl, ?_⟩
    rw [byteRows_drop, byteRows_take]
    have hcl : (chk l i).length = 4 := chk_len (by omega)
    have hA2 : App (sumS v d tk .busy) 1 v (pR (wds l i)) := hA.toks rfl
    obtain ⟨v2, s2, p2, a2, o2, -, -⟩ := hA2.push (bytes := 4) (by decide) (pR_fit _) (ys := pR [w4 (chk l i)]) (pR_fit _) (by simp [pR_len, wds_len]; omega) (by simp [pR_len, wds_len]; omega)
    rw [← pR_app, ← wds_succ] at a2
    refine sums_b (s := sumS v d tk .busy) (l := chk l i) rfl (by omega) p2 o2 (app_vcells a2) ?_
    simp only [q_rndB_n]
    exact ⟨rfl, trivial, v2, s2.toks, rfl, a2.toks rfl⟩
  · rintro w s ⟨k, ⟨v, tk, rfl, hA⟩, hk1, hk2⟩
    refine rfQ_ready rfl ?_
    rw [hbl] at hk1 hk2
    have hk4 : k = l.length / 4 := by
      have := hk2 (k - 1)
      rcases Nat.eq_zero_or_pos k with h | h
      · omega
      · have := this (by omega)
        omega
    subst hk4
    have hdv := fun s => hA.lv.dv s
    obtain ⟨x, hx⟩ := (hdv St.empty).2.2.1
    simp -implicitDefEqProofs [c42_k0, sumE, (fun s => (hdv s).1), h4]
    refine ⟨x, hx, ?_⟩
    have := (hdv St.empty).2.1
    rw [hx] at this
    exact this

/-! ### Read -/
def badB (l : List UInt8) : Prop := l.length % 4 ≠ 0 ∨ l.length / 4 < 1 ∨ 40 < l.length / 4
theorem s_Read {σ : St} {d : D} {l : List UInt8} (hd : LV (.d d) (byteRows l)) (hl : l.length ≤ 100000) : Dn.Call Γ cx .raw 19 [.d d] σ fun w s => (badB l ∧ w = .tup [.d .nilp, errV 2] ∧ s = σ) ∨ (¬ badB l ∧ ∃ y x, w = .tup [.ref y 0, .d .nili] ∧ PL x (words l) ∧ SkR s y (.d x) (words l) ∧ Fr [] σ s ∧ s.toks = σ.toks) := by
  refine Dn.Call.body (fc := c19) rfl ?_
  have e2 : errV 2 = .d (.iface 39 (.int .i64 2)) := rfl
  simp -implicitDefEqProofs [c19, c19_k3]
  refine use_val (ds := [.d d]) rfl (s_sums hd hl) fun w s hw => ?_
  rcases hw with ⟨h4, rfl⟩ | ⟨h4, x, rfl, hx⟩
  · refine ⟨rfl, fun h => Bool.noConfusion (show false = true from h), ?_⟩
    simp -implicitDefEqProofs [c19_k2, c19_k1, mkifV]
    exact ⟨.inl h4, e2.symm⟩
  have hlx : ∀ σ, lenT σ .slice (.d x) = some (words l).length := fun σ => by rw [hx.len, pR_len]
  have hwl := words_len l
  refine ⟨rfl, fun h => Bool.noConfusion (show false = true from h), ?_⟩
  by_cases h1 : l.length / 4 < 1
  · have hI : ((words l).length : Int) < 1 := by omega
    simp -implicitDefEqProofs [c19_k2, hlx, hI, c19_k1, mkifV]
    exact ⟨.inr (.inl h1), e2.symm⟩
  by_cases h2 : 40 < l.length / 4
  · have hI : ¬ ((words l).length : Int) < 1 := by omega
    have hI2 : (40 : Int) < (words l).length := by omega
    simp -implicitDefEqProofs [c19_k2, hlx, hI, hI2, c19_k1, mkifV]
    exact ⟨.inr (.inr h2), e2.symm⟩
  have hI : ¬ ((words l).length : Int) < 1 := by omega
  have hI2 : ¬ (40 : Int) < (words l).length := by omega
  simp -implicitDefEqProofs [c19_k2, hlx, hI, hI2, c19_k1, c19_k0]
  refine ⟨by unfold badB; omega, x, hx, ⟨by simp, .lv hx (by rintro r t st s h; cases h), by rintro r t st s h; cases h⟩, Fr.push1 _ _⟩

/-! ### the told sums -/
def InvRs (d : D) (l : List UInt8) (m : Nat) (e : Env) (s : St) : Prop := ∃ (i : Nat) (v : V), e = [(0, .d d), (4, v), (5, I (4 * i : Nat))] ∧ m = l.length - 4 * i ∧ 4 * i ≤ l.length ∧ App s 1 v (pR (wds l i))
theorem chk_num {l : List UInt8} {i : Nat} {a b c d : UInt8} (h0 : l[4 * i]? = some a) (h1 : l[4 * i + 1]? = some b) (h2 : l[4 * i + 2]? = some c) (h3 : l[4 * i + 3]? = some d) : num (chk l i) = a.toNat + 256 * b.toNat + 65536 * c.toNat + 16777216 * d.toNat := by
  have : chk l i = [a, b, c, d] := by
    apply List.ext_getElem?
    intro k
    unfold chk
    rw [List.getElem?_take]
    by_cases hk : k < 4
    · rw [if_pos hk, List.getElem?_drop, show i * 4 + k = 4 * i + k by omega]
      match k, hk with
      | 0, _ => simpa using h0
      | 1, _ => simpa using h1
      | 2, _ => simpa using h2
      | 3, _ => simpa using h3
    · rw [if_neg hk]
      simp
      omega
  rw [this]
  simp only [num]
  omega
theorem s_rSums {d : D} {l : List UInt8} (hd : LV (.d d) (byteRows l)) (hl : l.length ≤ 100000) : Dn.Call Γ cx .val 22 [.d d] St.empty fun w _ => (l.length % 4 ≠ 0 ∧ w = .tup [.d .nils, B false]) ∨ (l.length % 4 = 0 ∧ ∃ x, w = .tup [.d x, B true] ∧ PL x (words l)) := by
  refine Dn.Call.body (fc := c22) rfl ?_
  have hlen : ∀ σ, lenT σ .slice (.d d) = some l.length := fun σ => by rw [hd.len, byteRows_len]
  have hrem : (l.length : Int).tmod 4 = ((l.length % 4 : Nat) : Int) := rfl
  have hbl := byteRows_len l
  by_cases h4 : l.length % 4 = 0
  rotate_left
  · obtain ⟨q, hq⟩ : ∃ q, l.length % 4 = q := ⟨_, rfl⟩
    rw [hq] at hrem h4
    have e0 : ¬ ((q : Int) = 0) := by omega
    simp -implicitDefEqProofs [c22, c22_k10, hlen, hrem, h4, e0, c22_k9]
    omega
  have hrem0 : (l.length : Int).tmod 4 = 0 := by rw [hrem, h4]; rfl
  simp -implicitDefEqProofs [c22, c22_k10, hlen, hrem0, c22_k9, c22_k8, c22_k7, c22_k6]
  refine wloopI (InvRs d l) (m := l.length) ⟨0, _, rfl, by omega, by omega, .nil⟩ ?_
  rintro m e s ⟨i, v, rfl, rfl, hi, hA⟩
  have w3 : IntKind.i64.wrap (((4 * i : Nat) : Int) + 3) = ((4 * i + 3 : Nat) : Int) := by rw [wrap_i64 (by omega) (by omega)]; omega
  have w1 : IntKind.i64.wrap (((4 * i : Nat) : Int) + 1) = ((4 * i + 1 : Nat) : Int) := by rw [wrap_i64 (by omega) (by omega)]; omega
  have w2 : IntKind.i64.wrap (((4 * i : Nat) : Int) + 2) = ((4 * i + 2 : Nat) : Int) := by rw [wrap_i64 (by omega) (by omega)]; omega
  have w5 : IntKind.i64.wrap (((4 * i : Nat) : Int) + 4) = ((4 * (i + 1) : Nat) : Int) := by rw [wrap_i64 (by omega) (by omega)]; omega
  obtain ⟨p, hp⟩ : ∃ p, 4 * i = p := ⟨_, rfl⟩
  obtain ⟨p', hp'⟩ : ∃ p', 4 * (i + 1) = p' := ⟨_, rfl⟩
  obtain ⟨p1, hp1⟩ : ∃ p1, p + 1 = p1 := ⟨_, rfl⟩
  obtain ⟨p2, hp2⟩ : ∃ p2, p + 2 = p2 := ⟨_, rfl⟩
  obtain ⟨p3, hp3⟩ : ∃ p3, p + 3 = p3 := ⟨_, rfl⟩
  rw [hp'] at w5
  rw [hp] at w1 w2 w3 w5 ⊢
  rw [hp1] at w1
  rw [hp2] at w2
  rw [hp3] at w3
  by_cases hlt : p3 < l.length
  rotate_left
  · have hI : ¬ ((p3 : Int) < l.length) := by omega
    have hk : i = l.length / 4 := by omega
    subst hk
    have hdv := fun s => hA.lv.dv s
    obtain ⟨x, hx⟩ := (hdv St.empty).2.2.1
    simp -implicitDefEqProofs [c22_l5, hlen, w3, hI, hlt, c22_k4, c22_k0, (fun s => (hdv s).1), h4]
    refine ⟨x, hx, ?_⟩
    have := (hdv St.empty).2.1
    rw [hx] at this
    exact this
  have hI : (p3 : Int) < l.length := by omega
  obtain ⟨a, ha⟩ : ∃ a, l[p]? = some a := ⟨_, List.getElem?_eq_getElem (by omega)⟩
  obtain ⟨b, hb⟩ : ∃ b, l[p1]? = some b := ⟨_, List.getElem?_eq_getElem (by omega)⟩
  obtain ⟨c, hc⟩ : ∃ c, l[p2]? = some c := ⟨_, List.getElem?_eq_getElem (by omega)⟩
  obtain ⟨z, hz⟩ : ∃ z, l[p3]? = some z := ⟨_, List.getElem?_eq_getElem (by omega)⟩
  have ia := fun σ => hd.iaddr σ (k := .i64) (i := p) (byteRows_at ha) (sz := 1) rfl
  have ib := fun σ => hd.iaddr σ (k := .i64) (i := p1) (byteRows_at hb) (sz := 1) rfl
  have ic := fun σ => hd.iaddr σ (k := .i64) (i := p2) (byteRows_at hc) (sz := 1) rfl
  have iz := fun σ => hd.iaddr σ (k := .i64) (i := p3) (byteRows_at hz) (sz := 1) rfl
  have hnum := chk_num (l := l) (i := i) (by rw [hp]; exact ha) (by rw [hp, hp1]; exact hb) (by rw [hp, hp2]; exact hc) (by rw [hp, hp3]; exact hz)
  have la := a.toNat_lt
  have lb := b.toNat_lt
  have lc := c.toNat_lt
  have lz := z.toNat_lt
  have w32 : ∀ m : Nat, m < 4294967296 → IntKind.u32.wrap (m : Int) = m := fun m hm => by
    simp only [IntKind.wrap, IntKind.signed, IntKind.bits]; simp; omega
  have ca := w32 a.toNat (by omega)
  have cb := w32 b.toNat (by omega)
  have cc := w32 c.toNat (by omega)
  have cz := w32 z.toNat (by omega)
  have mb : IntKind.u32.wrap (256 * (b.toNat : Int)) = ((256 * b.toNat : Nat) : Int) := by
    rw [show 256 * (b.toNat : Int) = ((256 * b.toNat : Nat) : Int) by omega]
    exact w32 _ (by omega)
  have mc : IntKind.u32.wrap (65536 * (c.toNat : Int)) = ((65536 * c.toNat : Nat) : Int) := by
    rw [show 65536 * (c.toNat : Int) = ((65536 * c.toNat : Nat) : Int) by omega]
    exact w32 _ (by omega)
  have mz : IntKind.u32.wrap (16777216 * (z.toNat : Int)) = ((16777216 * z.toNat : Nat) : Int) := by
    rw [show 16777216 * (z.toNat : Int) = ((16777216 * z.toNat : Nat) : Int) by omega]
    exact w32 _ (by omega)
  obtain ⟨na, hna⟩ : ∃ n, a.toNat = n := ⟨_, rfl⟩
  obtain ⟨nb, hnb⟩ : ∃ n, b.toNat = n := ⟨_, rfl⟩
  obtain ⟨nc, hnc⟩ : ∃ n, c.toNat = n := ⟨_, rfl⟩
  obtain ⟨nz, hnz⟩ : ∃ n, z.toNat = n := ⟨_, rfl⟩
  rw [hna] at la ca ia hnum
  rw [hnb] at lb cb ib mb hnum
  rw [hnc] at lc cc ic mc hnum
  rw [hnz] at lz cz iz mz hnum
  obtain ⟨kb, hkb⟩ : ∃ n, 256 * nb = n := ⟨_, rfl⟩
  obtain ⟨kc, hkc⟩ : ∃ n, 65536 * nc = n := ⟨_, rfl⟩
  obtain ⟨kz, hkz⟩ : ∃ n, 16777216 * nz = n := ⟨_, rfl⟩
  rw [hkb] at mb hnum
  rw [hkc] at mc hnum
  rw [hkz] at mz hnum
  have s1 : IntKind.u32.wrap ((na : Int) + kb) = ((na + kb : Nat) : Int) := by
    rw [show (na : Int) + kb = ((na + kb : Nat) : Int) by omega]
    exact w32 _ (by omega)
  obtain ⟨t1, ht1⟩ : ∃ n, na + kb = n := ⟨_, rfl⟩
  rw [ht1] at s1 hnum
  have s2 : IntKind.u32.wrap ((t1 : Int) + kc) = ((t1 + kc : Nat) : Int) := by
    rw [show (t1 : Int) + kc = ((t1 + kc : Nat) : Int) by omega]
    exact w32 _ (by omega)
  obtain ⟨t2, ht2⟩ : ∃ n, t1 + kc = n := ⟨_, rfl⟩
  rw [ht2] at s2 hnum
  have s3 : IntKind.u32.wrap ((t2 : Int) + kz) = ((t2 + kz : Nat) : Int) := by
    rw [show (t2 : Int) + kz = ((t2 + kz : Nat) : Int) by omega]
    exact w32 _ (by omega)
  obtain ⟨t3, ht3⟩ : ∃ n, t2 + kz = n := ⟨_, rfl⟩
  rw [ht3] at s3 hnum
  have hun : un (w4 (chk l i)) = (t3 : Int) := by rw [un_w4 (by rw [chk_len (by omega)]; exact Nat.le_refl _), hnum]
  have hA1 := hA.toks (room_toks s 1)
  obtain ⟨v2, s5, hap, happ, ho, -, -⟩ := hA1.push (bytes := 4) (by decide) (pR_fit _) (ys := pR [w4 (chk l i)]) (pR_fit _) (by simp [pR_len, wds_len]; omega) (by simp [pR_len, wds_len]; omega)
  rw [← pR_app, ← wds_succ] at happ
  simp -implicitDefEqProofs [c22_l5, hlen, w3, hI, hlt, c22_k4, c22_k3, c22_k2]
  refine w_drw (fun _ => .val) [] (by decide +kernel) ?_
  simp -implicitDefEqProofs [ia, ib, ic, iz, w1, w2, w3, ca, cb, cc, cz, mb, mc, mz, s1, s2, s3, repl, rowsOf, frzV]
  refine t_app_f (v := v2) (s := s5) ?_ ?_
  · have := fun tg => hap tg
    simp only [pR, List.map_cons, List.map_nil, hun] at this
    simp -implicitDefEqProofs [V.rows]
    exact this _
  simp -implicitDefEqProofs [c22_k1, w5]
  exact ⟨l.length - p', by omega, i + 1, v2, by rw [hp'], by rw [hp'], by omega, happ⟩
end Go.Proofs.Ytmlkdfjojoophaa.T

/- Regions in which a new list is never written: it may stand as a value. -/
namespace Go.Dn
set_option linter.unusedVariables false
set_option linter.unusedSimpArgs false

variable {K : CallP} {cx : Cx}

def frzIns : Ins → Ins
  | .e dst (.makeSlice t sz b z len cap) => .p dst (.mkfl sz b z len cap)
  | i => i
def frzOp (d : DOp) : DOp := { d with ins := frzIns d.ins }

theorem wdop_frz {n0 : Nat} {d : DOp} {e : Env} {σ : St} {Q : Env → St → Prop} (h : wdop K cx n0 (frzOp d) e σ Q) : wdop K cx n0 d e σ Q := by
  obtain ⟨gd, i, af, al⟩ := d
  cases i with
  | e dst op =>
    cases op with
    | makeSlice t sz b z len cap =>
      have hgo : goneOne (frzIns (.e dst (.makeSlice t sz b z len cap))) e = goneOne (.e dst (.makeSlice t sz b z len cap)) e := by simp only [frzIns, goneOne]
      have key : (match evalP (.mkfl sz b z len cap) e σ with
        | some v => Q (putE e dst v) σ
        | none => False) → ((match evalE (.makeSlice t sz b z len cap) e σ (some (n0 + al)) with
        | some (v, σ') => Q (putE e dst v) σ'
        | none => False) ∨ (match evalM (.makeSlice t sz b z len cap) e σ (some (n0 + al)) with
        | some (v, σ') => Q (putE e dst v) σ'
        | none => False)) := by
        intro h
        right
        simp only [evalP, evalM] at *
        generalize len.ev e = x at *
        generalize cap.ev e = y at *
        split at h
        · rename_i v hv
          split at hv
          · rename_i k l k' c
            split at hv
            · rename_i hc
              simp only [if_pos hc]
              cases hv
              exact h
            · cases hv
          · cases hv
        · exact h.elim
      simp only [wdop, frzOp, frzIns] at h ⊢
      cases gd with
      | none => exact key h
      | some p =>
        obtain ⟨s, want⟩ := p
        simp only at h ⊢
        split
        · rename_i b' hb
          rw [hb] at h
          simp only at h
          split
          · rename_i hw; rw [if_pos hw] at h; exact key h
          · rename_i hw; rw [if_neg hw] at h; exact h
        · rename_i hb; rw [hb] at h; exact h
        · rename_i h1 h2
          split at h
          · rename_i b' hb; exact (h1 _ hb).elim
          · rename_i hb; exact (h2 hb).elim
          · exact h
    | _ => exact h
  | _ => exact h
theorem readyD_frz (l : List DOp) (S : List Nat) : readyD (l.map frzOp) S = readyD l S := by
  unfold readyD
  rw [List.length_map]
  refine List.filter_congr fun i hi => ?_
  rw [List.getElem?_map]
  cases l[i]? <;> rfl
theorem wany_frz {n0 : Nat} {l : List DOp} {Q : Env → St → Prop} : ∀ (fuel : Nat) (S : List Nat) (e : Env) (σ : St), wany K cx n0 (l.map frzOp) fuel S e σ Q → wany K cx n0 l fuel S e σ Q
  | 0, S, e, σ, h => by
    simp only [wany, readyD_frz] at h ⊢
    exact h
  | f + 1, S, e, σ, h => by
    simp only [wany, readyD_frz] at h ⊢
    refine ⟨h.1, fun i hi => ?_⟩
    obtain ⟨o, ho, hw⟩ := h.2 i hi
    rw [List.getElem?_map] at ho
    cases hl : l[i]? with
    | none => rw [hl] at ho; cases ho
    | some o' =>
      rw [hl] at ho
      cases ho
      refine ⟨o', rfl, ?_⟩
      exact wdop_le (fun _ _ _ _ _ h => h) (fun e s => wany_frz f (i :: S) e s) (wdop_frz hw)
/-- A region whose new lists are values. -/
theorem w_frz {ks : List Nat} {na : Nat} {l : List DOp} {e : Env} {σ : St} {Q : PostC} (h : wcode K cx (.drw ks na (l.map frzOp)) e σ Q) : wcode K cx (.drw ks na l) e σ Q := by
  simp only [wcode] at h ⊢
  intro ho
  have := h ho
  rw [List.length_map] at this
  exact wany_frz _ _ _ _ this
end Go.Dn

namespace Go.Proofs.Ytmlkdfjojoophaa.T
open Go.Dn
attribute [local simp] body_eq globEnv GB List.map_nil List.map_cons List.append_nil w_rangeF i_next i_makeMap i_range i_update i_delete i_entry i_clone entryV cloneV q_rndA q_rndB_n q_rndB_e q_rndB_r setAll w_skip w_ops w_seq w_cond w_block w_exit w_ret q_then_n q_then_e q_then_r q_blk_n q_blk_e q_blk_r q_ops q_cont q_end_n q_end_r q_end_e q_loop_n q_loop_e q_loop_r i_nil i_p i_alloc i_box i_store i_copy i_clear i_call i_callv i_when t_nil t_p t_call t_alloc t_box t_store kept_nil t_copy t_clear q_tcont gsel List.cons_append List.nil_append evalP evalE evalF evalB isObj thaw Opd.ev Env.get Env.set Env.pick putE initEnv evalBin intBin evalUn evalConv goneAll goneOne retV resAll Res.ev tupOf byVals byValsN bv_d bv_da bv_fl bv_tl bn_d bn_da bn_fl bn_tl cx Dn.newObj St.place St.push St.spot St.empty cell_d cell_da cell_agg cell_ref cell_sl cell_fl cell_tl cell_map cell_fn cell_ifc loadAt faddrV partOf extractV mkAgg ofD splice St.setObj fillV
set_option linter.unusedSimpArgs false
set_option linter.unusedVariables false

/-! ### the law SketchPuts -/
/-- The told answer's bytes. -/
theorem s_OfW {n : Nat} (hn : n ≤ 1000) {d : D} {A : List W32} (hd : PL d A) (hl : A.length ≤ 1000) : Dn.Call Γ cx .val 24 [I n, .d d] St.empty (isPL (fnL n (osum A))) := by
  have h : LV (.d d) (uRows (A.map un)) := by rw [uRows_map]; exact hd
  refine Dn.Call.mono (fun w s ⟨x, hw, hx⟩ => ⟨x, hw, ?_⟩) (s_Of hn h (un_bound A) (by simpa using hl))
  rw [acc_osum] at hx
  have e : pR (fnL n (osum A)) = wRows (osum A) n := by
    unfold pR fnL wRows
    rw [List.map_map]
    rfl
  unfold PL
  rw [e]
  exact hx

/-! ### the law SketchSums -/
theorem zerosD_one : ∀ n : Nat, rowsOf 1 n (zerosD n [D.int .u32 0]) = pR (List.replicate n 0)
  | 0 => rfl
  | n + 1 => by
    have := zerosD_one n
    simp only [zerosD, List.replicate_succ, pR, List.map_cons] at this ⊢
    simp only [rowsOf, List.cons_append, List.nil_append, List.take_succ_cons, List.take_zero, List.drop_succ_cons, List.drop_zero, this]
    rfl
theorem all_zero (L : List W32) : decide (∀ x ∈ L, x = 0) = decide (L = List.replicate L.length 0) := by
  congr 1
  refine propext ⟨fun h => List.eq_replicate_iff.2 ⟨rfl, h⟩, fun h => (List.eq_replicate_iff.1 h).2⟩
abbrev suQ : PostC := endQ .val St.empty [.tmp 6] fun v _ => v = B true
def newR (s : St) (n : Int) (L : List W32) (v e : V) : Prop := (badN n L ∧ v = .d .nilp ∧ e = errV 1) ∨ (¬ badN n L ∧ ∃ y r, v = .ref y 0 ∧ e = .d .nili ∧ Sk s y r n.toNat (osum L) ∧ y ≠ r)
theorem newR.fr {s s' : St} {n : Int} {L : List W32} {v e : V} (h : newR s n L v e) (hf : Fr [] s s') : newR s' n L v e := by
  rcases h with h | ⟨h, y, r, h1, h2, h3, h4⟩
  · exact .inl h
  · exact .inr ⟨h, y, r, h1, h2, ⟨hf.get h3.o (by simp), hf.get h3.l (by simp)⟩, h4⟩
theorem fr_room (s : St) (k : Nat) : Fr [] s (s.room k) := ⟨by simp [St.room], fun q _ hq => by
  show (s.objs ++ _)[q]? = _
  rw [List.getElem?_append_left hq]⟩
theorem agr_sk {s s2 : St} {z : Nat} {w : V} {L : List W32} {n0 : Nat} (hn : s.objs.length ≤ n0) {σ : St} (hf : Fr [] s σ) (ha : Agr n0 σ s2) (h : SkR s z w L) : SkR s2 z w L := by
  have h2 := h.fr hf
  refine ⟨(ha.1 _ (Nat.lt_of_lt_of_le (List.getElem?_eq_some_iff.1 h.o).1 hn)).trans h2.o, h2.r.mono fun r off n sz e => ha.1 r (Nat.lt_of_lt_of_le ?_ hn), h2.n⟩
  have := h.r
  subst e
  cases this with
  | lv h3 => cases h3
  | sl h3 => exact (List.getElem?_eq_some_iff.1 h3).1
theorem law5_k0 {s : St} {x rx n : Nat} {A : List W32} {dw : D} (h1 : 1 ≤ n) (h40 : n ≤ 40) (hx : Sk s x rx n (osum A)) (hxr : x ≠ rx) (hw : PL dw (fnL n (osum A))) :
    wcode (Dn.Call Γ cx) cx c5_k0 [(0, I n), (8, .ref x 0), (9, .d .nili), (14, .d dw)] s suQ := by
  simp only [c5_k0, w_seq]
  refine w_frz ?_
  simp only [List.map_cons, List.map_nil, frzOp, frzIns]
  refine w_drwX (fun f => if f = 18 ∨ f = 23 ∨ f = 13 then .rd else .val) [] (by decide +kernel) ?_
  have hX := hx.toR (fun e => hxr e.symm)
  have hrm := fr_room s 1
  have agr : ∀ {s2 : St} {z : Nat} {w : V} {L : List W32}, Agr s.objs.length (s.room 1) s2 → SkR s z w L → SkR s2 z w L := fun ha h => agr_sk (Nat.le_refl _) hrm ha h
  have hcv : ∀ (σ : St) (l : List UInt8), evalConv σ .bytesStr (.d (.list (byteRows l))) = some (.d (.str l)) := fun σ l => conv_bytes (.list _)
  have hnl := fnL_len n (osum A)
  have hb4 : (n : Int) * 4 ≤ 140737488355328 := by omega
  have hb5 : (n : Int) ≤ 9223372036854775807 := by omega
  have hz := zerosD_one n
  generalize s.room 1 = σ at *
  simp -implicitDefEqProofs [eqV, V.isNil, Opd.isC]
  refine use_rdN (r := I n) rfl (fun s2 ha => ?_) ?_
  · have := s_skCap (agr ha hX)
    rw [hnl] at this
    exact this
  simp only [q_tcont, putE, Env.set]
  simp -implicitDefEqProofs
  refine use_rdN (r := .d (.list (byteRows (bL (fnL n (osum A)))))) rfl (fun s2 ha => (s_bytesOfR (agr ha hX) (by omega)).mono fun v s ⟨d, hv, hd⟩ => by
    rw [hv, lv_list hd (skB_ne _ (by omega))]) ?_
  simp only [q_tcont, putE, Env.set]
  simp -implicitDefEqProofs [-evalConv, hcv]
  refine use_valN (ds := [.d dw]) rfl rfl (s_rBytesL (by omega) hw) ⟨.d (.list (byteRows (bL (fnL n (osum A))))), St.empty, _, rfl, .list _⟩ fun w s6 ⟨d6, hw6, h6⟩ => ?_
  subst hw6
  have e6 := lv_list h6 (skB_ne _ (by omega))
  subst e6
  refine ⟨rfl, fun hb => Bool.noConfusion (show false = true from hb), ?_⟩
  simp only [q_tcont, putE, Env.set]
  simp -implicitDefEqProofs [-evalConv, hcv, strBin]
  refine use_rdN rfl (fun s2 ha => s_Empty (agr ha hX) (by omega)) ?_
  simp only [q_tcont, putE, Env.set]
  simp -implicitDefEqProofs [hb4, hb5, hz]
  have hW := s_WordsW (X := fnL n (osum A)) (Y := List.replicate n 0) (y := .list (pR (List.replicate n 0))) hw (.list _) (by omega) (by simp; omega)
  refine use_fnN (ds := [.d dw, .d (.list (pR (List.replicate n 0)))]) rfl rfl hW (Bool.or_true _) ?_
  have ha := all_zero (fnL n (osum A))
  rw [hnl] at ha
  have ha' : decide (∀ x, x ∈ fnL n (osum A) → x = 0#32) = decide (fnL n (osum A) = List.replicate n 0#32) := ha
  simp only [q_tcont, putE, Env.set]
  simp -implicitDefEqProofs [eqV, ha']
theorem law5_k3 {s : St} {c : Int} {A : List W32} {dA : D} {vx ve : V} (hA : PL dA A) (lA : A.length ≤ 20) (hN : newR s c A vx ve) {t : Env} (ht : t = [] ∨ t = [(66, B false)] ∨ t = [(93, B false)]) :
    wcode (Dn.Call Γ cx) cx c5_k3 ([(0, .d (.int .i64 c)), (1, .d dA), (8, vx), (9, ve)] ++ t) s suQ := by
  have main : ∀ (Q : Env → Prop), Q [(0, .d (.int .i64 c)), (1, .d dA), (8, vx), (9, ve)] → True := fun _ _ => trivial
  rcases hN with ⟨hb, rfl, rfl⟩ | ⟨hb, y, r, rfl, rfl, hS, hyr⟩
  · have fin : wcode (Dn.Call Γ cx) cx c5_k2 [(0, .d (.int .i64 c)), (1, .d dA), (8, .d .nilp), (9, errV 1), (103, B true)] s (thenQ (Dn.Call Γ cx) cx c5_k1 suQ) := by
      simp -implicitDefEqProofs [c5_k2]
      refine use_fn (ds := [errV 1, I 1]) rfl (s_Is 1 1) rfl ?_
      simp -implicitDefEqProofs [eqV, V.isNil, Opd.isC]
    by_cases g3 : c < 1
    · rcases ht with rfl | rfl | rfl <;> (simp -implicitDefEqProofs [c5_k3, g3]; exact fin)
    by_cases g4 : (40 : Int) < c
    · rcases ht with rfl | rfl | rfl <;> (simp -implicitDefEqProofs [c5_k3, g3, g4]; exact fin)
    have z : (0#32 : W32) ∈ A := by
      rcases hb with h | h | h
      · omega
      · omega
      · exact h
    rcases ht with rfl | rfl | rfl <;>
    · simp -implicitDefEqProofs [c5_k3, g3, g4]
      refine use_fn (ds := [.d dA]) rfl (s_none hA (by omega)) rfl ?_
      simp -implicitDefEqProofs [z]
      exact fin
  · have g3 : ¬ c < 1 := fun h => hb (.inl h)
    have g4 : ¬ (40 : Int) < c := fun h => hb (.inr (.inl h))
    have z : (0#32 : W32) ∉ A := fun h => hb (.inr (.inr h))
    obtain ⟨n, rfl⟩ : ∃ n : Nat, c = (n : Int) := ⟨c.toNat, by omega⟩
    rw [Int.toNat_natCast] at hS
    rcases ht with rfl | rfl | rfl <;>
    · simp -implicitDefEqProofs [c5_k3, g3, g4]
      refine use_fn (ds := [.d dA]) rfl (s_none hA (by omega)) rfl ?_
      simp -implicitDefEqProofs [z, c5_k2, c5_k1]
      refine use_val (ds := [I n, .d dA]) rfl (s_OfW (by omega) hA (by omega)) fun w s2 ⟨dw, hw, hd⟩ => ?_
      subst hw
      refine ⟨rfl, fun h => Bool.noConfusion (show false = true from h), ?_⟩
      simp -implicitDefEqProofs
      exact law5_k0 (by omega) (by omega) hS hyr hd
theorem law5_k7 {s : St} {c : Int} {A : List W32} {dA dB dl dx : D} {vx ve : V} {y : Nat} {l : List UInt8} (hA : PL dA A) (lA : A.length ≤ 20) (hN : newR s c A vx ve) (hB : LV (.d dB) (byteRows l)) (lB : l.length ≤ 400) (hg : ¬ badB l) (hl : PL dl (words l)) (hy : SkR s y (.d dx) (words l)) :
    wcode (Dn.Call Γ cx) cx c5_k7 [(0, .d (.int .i64 c)), (1, .d dA), (2, .d dB), (8, vx), (9, ve), (10, .ref y 0), (11, .d .nili), (12, .d dl), (59, B false)] s (thenQ (Dn.Call Γ cx) cx c5_k3 suQ) := by
  have hg' : l.length % 4 = 0 ∧ 1 ≤ l.length / 4 ∧ l.length / 4 ≤ 40 := by unfold badB at hg; omega
  simp only [c5_k7, w_seq]
  refine w_frz ?_
  simp only [List.map_cons, List.map_nil, frzOp, frzIns]
  refine w_drwX (fun f => if f = 18 ∨ f = 23 ∨ f = 13 then .rd else .val) [] (by decide +kernel) ?_
  have hrm := fr_room s 1
  have hNr := hN.fr hrm
  have agr : ∀ {s2 : St} {z : Nat} {w : V} {L : List W32}, Agr s.objs.length (s.room 1) s2 → SkR s z w L → SkR s2 z w L := fun ha h => agr_sk (Nat.le_refl _) hrm ha h
  have hcv : ∀ (σ : St) (l : List UInt8), evalConv σ .bytesStr (.d (.list (byteRows l))) = some (.d (.str l)) := fun σ l => conv_bytes (.list _)
  have hcb : ∀ (σ : St), evalConv σ .bytesStr (.d dB) = some (.d (.str l)) := fun σ => conv_bytes hB
  have hnl := words_len l
  have hbw := bL_words hg'.1
  have hll : ∀ σ, lenT σ .slice (.d dl) = some (words l).length := fun σ => by rw [hl.len, pR_len]
  obtain ⟨n, hn⟩ : ∃ n, (words l).length = n := ⟨_, rfl⟩
  have hb4 : (n : Int) * 4 ≤ 140737488355328 := by omega
  have hb5 : (n : Int) ≤ 9223372036854775807 := by omega
  have hz := zerosD_one n
  have hW := s_WordsW (X := words l) (Y := List.replicate n 0) (y := .list (pR (List.replicate n 0))) hl (.list _) (by omega) (by simp; omega)
  have ha := all_zero (words l)
  rw [hn] at ha hll hnl
  have hlW : (words l).length ≤ 1000 := by omega
  have hne : byteRows (bL (words l)) ≠ [] := skB_ne _ (by omega)
  have hcap : ∀ {s2 : St}, SkR s2 y (.d dx) (words l) → Dn.Call Γ cx .rd 13 [.ref y 0] s2 fun w _ => w = I n := fun h => by
    have := s_skCap h
    rwa [hn] at this
  have hem : ∀ {s2 : St}, SkR s2 y (.d dx) (words l) → Dn.Call Γ cx .rd 23 [.ref y 0] s2 fun w _ => w = B (decide (words l = List.replicate n 0)) := fun h => by
    have := s_Empty h (by omega)
    rwa [ha] at this
  have hby : ∀ {s2 : St}, SkR s2 y (.d dx) (words l) → Dn.Call Γ cx .rd 18 [.ref y 0] s2 fun w _ => w = .d (.list (byteRows l)) := fun h => (s_bytesOfR h hlW).mono fun v s ⟨d, hv, hd⟩ => by
    rw [hv, lv_list hd hne, hbw]
  generalize s.room 1 = σ at *
  simp -implicitDefEqProofs [eqV, V.isNil, Opd.isC]
  refine use_rdN rfl (fun s2 ha => hcap (agr ha hy)) ?_
  simp only [q_tcont, putE, Env.set]
  simp -implicitDefEqProofs [hll]
  refine use_rdN rfl (fun s2 ha => hby (agr ha hy)) ?_
  simp only [q_tcont, putE, Env.set]
  simp -implicitDefEqProofs [-evalConv, hcv, hcb, strBin]
  refine use_rdN rfl (fun s2 ha => hem (agr ha hy)) ?_
  simp only [q_tcont, putE, Env.set]
  simp -implicitDefEqProofs [hll, hb4, hb5, hz]
  refine use_fnN (ds := [.d dl, .d (.list (pR (List.replicate n 0)))]) rfl rfl hW (Bool.or_true _) ?_
  simp only [q_tcont, putE, Env.set]
  simp -implicitDefEqProofs [eqV, c5_k6]
  exact law5_k3 hA lA hNr (t := [(93, B false)]) (.inr (.inr rfl))
theorem law5_bad {s2 : St} {c : Int} {A : List W32} {dA dB d12 : D} {vx ve : V} {b13 : Bool} {L12 : List W32} (hA : PL dA A) (lA : A.length ≤ 20) (hN2 : newR s2 c A vx ve) (h12 : PL d12 L12) (hc : b13 = false ∨ L12.length < 1 ∨ 40 < L12.length) :
    wcode (Dn.Call Γ cx) cx c5_k9 [(0, .d (.int .i64 c)), (1, .d dA), (2, .d dB), (8, vx), (9, ve), (10, .d .nilp), (11, errV 2), (12, .d d12), (13, B b13)] s2 (thenQ (Dn.Call Γ cx) cx c5_k3 suQ) := by
  have hll : ∀ σ, lenT σ .slice (.d d12) = some L12.length := fun σ => by rw [h12.len, pR_len]
  have fin : wcode (Dn.Call Γ cx) cx c5_k8 [(0, .d (.int .i64 c)), (1, .d dA), (2, .d dB), (8, vx), (9, ve), (10, .d .nilp), (11, errV 2), (12, .d d12), (59, B true)] s2 (thenQ (Dn.Call Γ cx) cx c5_k3 suQ) := by
    simp -implicitDefEqProofs [c5_k8, c5_k5]
    refine use_fn (ds := [errV 2, I 2]) rfl (s_Is 2 2) rfl ?_
    simp -implicitDefEqProofs [eqV, V.isNil, Opd.isC, c5_k4]
    exact law5_k3 hA lA hN2 (t := [(66, B false)]) (.inr (.inl rfl))
  cases b13 with
  | false =>
    simp -implicitDefEqProofs [c5_k9]
    exact fin
  | true =>
    by_cases g1 : L12.length < 1
    · have g1I : (L12.length : Int) < 1 := by omega
      simp -implicitDefEqProofs [c5_k9, hll, g1I]
      exact fin
    · have g1I : ¬ (L12.length : Int) < 1 := by omega
      have g2I : (40 : Int) < L12.length := by
        rcases hc with h | h | h
        · cases h
        · omega
        · omega
      simp -implicitDefEqProofs [c5_k9, hll, g1I, g2I]
      exact fin
def readR (s : St) (l : List UInt8) (v e : V) : Prop := (badB l ∧ v = .d .nilp ∧ e = errV 2) ∨ (¬ badB l ∧ ∃ y dx, v = .ref y 0 ∧ e = .d .nili ∧ SkR s y (.d dx) (words l))
set_option maxHeartbeats 1000000 in
theorem law5_k10b {s2 : St} {c : Int} {A : List W32} {dA dB : D} {vx ve : V} {l : List UInt8} (hA : PL dA A) (lA : A.length ≤ 20) (hN2 : newR s2 c A vx ve) (hb : badB l) (hB : LV (.d dB) (byteRows l)) (lB : l.length ≤ 400) :
    wcode (Dn.Call Γ cx) cx c5_k10 [(0, .d (.int .i64 c)), (1, .d dA), (2, .d dB), (8, vx), (9, ve), (10, .d .nilp), (11, errV 2), (42, B false)] s2 suQ := by
  have hwl := words_len l
  have hn : PL .nils [] := .nil
  have hf : false = false ∨ ([] : List W32).length < 1 ∨ 40 < ([] : List W32).length := Or.inl rfl
  simp -implicitDefEqProofs [c5_k10]
  refine use_val (ds := [.d dB]) rfl (s_rSums hB (by omega)) fun w s3 hw3 => ?_
  rcases hw3 with ⟨h4, rfl⟩ | ⟨h4, x, rfl, hx⟩
  · refine ⟨rfl, fun h => Bool.noConfusion (show false = true from h), ?_⟩
    simp -implicitDefEqProofs
    exact law5_bad hA lA hN2 hn hf
  · refine ⟨rfl, fun h => Bool.noConfusion (show false = true from h), ?_⟩
    have hc : true = false ∨ (words l).length < 1 ∨ 40 < (words l).length := by unfold badB at hb; omega
    simp -implicitDefEqProofs
    exact law5_bad hA lA hN2 hx hc
theorem law5_k10g {s2 : St} {c : Int} {A : List W32} {dA dB dx : D} {vx ve : V} {y : Nat} {l : List UInt8} (hA : PL dA A) (lA : A.length ≤ 20) (hN2 : newR s2 c A vx ve) (hb : ¬ badB l) (hy : SkR s2 y (.d dx) (words l)) (hB : LV (.d dB) (byteRows l)) (lB : l.length ≤ 400) :
    wcode (Dn.Call Γ cx) cx c5_k10 [(0, .d (.int .i64 c)), (1, .d dA), (2, .d dB), (8, vx), (9, ve), (10, .ref y 0), (11, .d .nili), (42, B false)] s2 suQ := by
  have hwl := words_len l
  have hg' : l.length % 4 = 0 ∧ 1 ≤ l.length / 4 ∧ l.length / 4 ≤ 40 := by unfold badB at hb; omega
  simp -implicitDefEqProofs [c5_k10]
  refine use_val (ds := [.d dB]) rfl (s_rSums hB (by omega)) fun w s3 hw3 => ?_
  rcases hw3 with ⟨h4, rfl⟩ | ⟨h4, x, rfl, hx⟩
  · exact absurd hg'.1 h4
  · refine ⟨rfl, fun h => Bool.noConfusion (show false = true from h), ?_⟩
    have hll : ∀ σ, lenT σ .slice (.d x) = some (words l).length := fun σ => by rw [hx.len, pR_len]
    have g1I : ¬ ((words l).length : Int) < 1 := by omega
    have g2I : ¬ (40 : Int) < (words l).length := by omega
    simp -implicitDefEqProofs [c5_k9, hll, g1I, g2I, c5_k8]
    exact law5_k7 hA lA hN2 hB lB hb hx hy
theorem law5_k12 {s2 : St} {c : Int} {A : List W32} {dA dB : D} {v7 vx ve vy e11 : V} {l : List UInt8} (hA : PL dA A) (lA : A.length ≤ 20) (h7 : LV v7 (pR A)) (hN2 : newR s2 c A vx ve) (hR : readR s2 l vy e11) (hB : LV (.d dB) (byteRows l)) (lB : l.length ≤ 400) :
    wcode (Dn.Call Γ cx) cx c5_k12 [(0, .d (.int .i64 c)), (1, .d dA), (2, .d dB), (7, v7), (8, vx), (9, ve), (10, vy), (11, e11)] s2 suQ := by
  obtain ⟨d7, b7, l7⟩ := h7.byVal s2
  have hw := s_WordsW l7 hA (by omega) (by omega)
  simp at hw
  simp -implicitDefEqProofs [c5_k12]
  refine use_fn (ds := [.d d7, .d dA]) (by simp only [byVals, b7]; rfl) hw (Bool.or_true _) ?_
  simp -implicitDefEqProofs [c5_k11]
  rcases hR with ⟨hb, rfl, rfl⟩ | ⟨hb, y, dx, rfl, rfl, hy⟩
  · exact law5_k10b hA lA hN2 hb hB lB
  · exact law5_k10g hA lA hN2 hb hy hB lB
theorem law5_k13 {s : St} {c : Int} {A : List W32} {dA dB : D} {v7 vx ve : V} {l : List UInt8} (hA : PL dA A) (lA : A.length ≤ 20) (h7 : LV v7 (pR A)) (hN : newR s c A vx ve) (hB : LV (.d dB) (byteRows l)) (lB : l.length ≤ 400) :
    wcode (Dn.Call Γ cx) cx c5_k13 [(0, .d (.int .i64 c)), (1, .d dA), (2, .d dB), (7, v7), (8, vx), (9, ve)] s suQ := by
  simp -implicitDefEqProofs [c5_k13]
  refine use_raw (s_Read hB (by omega)) fun w s2 hw => ?_
  rcases hw with ⟨hb, rfl, rfl⟩ | ⟨hb, y, x, rfl, hx, hy, hf, ht⟩
  · simp -implicitDefEqProofs
    exact law5_k12 hA lA h7 hN (.inl ⟨hb, rfl, rfl⟩) hB lB
  · simp -implicitDefEqProofs
    exact law5_k12 hA lA h7 (hN.fr hf) (.inr ⟨hb, y, x, rfl, rfl, hy⟩) hB lB
theorem law5 {d0 dA dB : D} (h0 : (Lk.int .i64).fits d0) (fA : wordsK.fits dA) (fB : (Lk.list [.int .u8]).fits dB) : Dn.Call Γ cx .val 5 [.d d0, .d dA, .d dB] St.empty fun r _ => r = B true := by
  obtain ⟨c, rfl, -, -⟩ := h0
  obtain ⟨A, hA⟩ := words_fit fA
  obtain ⟨l, hB⟩ := bytes_fit fB
  refine Dn.Call.body (fc := c5) rfl ?_
  have hlA : ∀ σ, lenT σ .slice (.d dA) = some A.length := fun σ => by rw [hA.len, pR_len]
  have hlB : ∀ σ, lenT σ .slice (.d dB) = some l.length := fun σ => by rw [hB.len, byteRows_len]
  simp -implicitDefEqProofs [c5, c5_k19]
  refine use_fn rfl s_alive rfl ?_
  by_cases g1 : (20 : Int) < A.length
  · simp -implicitDefEqProofs [c5_k18, c5_k17, hlA, g1, c5_k16]
  by_cases g2 : (400 : Int) < l.length
  · simp -implicitDefEqProofs [c5_k18, c5_k17, hlA, g1, hlB, g2, c5_k16]
  simp -implicitDefEqProofs [c5_k18, c5_k17, hlA, g1, hlB, g2, c5_k16, c5_k15, isObj, repl, rowsOf, frzV]
  obtain ⟨v1, s1, p1, a1, o1, -, -⟩ := (App.fl [] : App St.empty 1 (.fl []) []).push (bytes := 4) (by decide) (by simp) (pR_fit A) (by simp [pR_len]; omega) (by simp [pR_len]; omega)
  rw [List.nil_append] at a1
  refine i_app_f (v := v1) (s := s1) ?_ ?_
  · simp [evalE, Opd.ev, Env.get, hA.rows]
    exact p1 _
  simp -implicitDefEqProofs [c5_k14]
  refine use_raw (s_newW (n := c) a1.lv (by omega)) fun w s5 ⟨hq, hf5, ht5⟩ => ?_
  rcases hq with ⟨hb, rfl⟩ | ⟨hb, y, r, rfl, hSk, hyr⟩
  · simp -implicitDefEqProofs
    exact law5_k13 hA (by omega) a1.lv (.inl ⟨hb, rfl, rfl⟩) hB (by omega)
  · simp -implicitDefEqProofs
    exact law5_k13 hA (by omega) a1.lv (.inr ⟨hb, y, r, rfl, rfl, hSk, hyr⟩) hB (by omega)
end Go.Proofs.Ytmlkdfjojoophaa.T
