import Derived.Test.YtmlkdfjojoophaaF20
namespace Go.Proofs.Ytmlkdfjojoophaa.T
open Go.Dn
attribute [local simp] body_eq globEnv GB List.map_nil List.map_cons List.append_nil w_rangeF i_next i_makeMap i_range i_update i_delete i_entry i_clone entryV cloneV q_rndA q_rndB_n q_rndB_e q_rndB_r setAll w_skip w_ops w_seq w_cond w_block w_exit w_ret q_then_n q_then_e q_then_r q_blk_n q_blk_e q_blk_r q_ops q_cont q_end_n q_end_r q_end_e q_loop_n q_loop_e q_loop_r i_nil i_p i_alloc i_box i_store i_copy i_clear i_call i_callv i_when t_nil t_p t_call t_alloc t_box t_store kept_nil t_copy t_clear q_tcont gsel List.cons_append List.nil_append evalP evalE evalF evalB isObj thaw Opd.ev Env.get Env.set Env.pick putE initEnv evalBin intBin evalUn evalConv goneAll goneOne retV resAll Res.ev tupOf byVals byValsN bv_d bv_da bv_fl bv_tl bn_d bn_da bn_fl bn_tl cx Dn.newObj St.place St.push St.spot St.empty cell_d cell_da cell_agg cell_ref cell_sl cell_fl cell_tl cell_map cell_fn cell_ifc loadAt faddrV partOf extractV mkAgg ofD splice St.setObj fillV
set_option linter.unusedSimpArgs false
set_option linter.unusedVariables false

/-! ### Reverse, Equal -/
def revTo (L : List W32) (k : Nat) : List W32 := (List.range L.length).map fun i => if i < k ∨ L.length - k ≤ i then L.getD (L.length - 1 - i) 0 else L.getD i 0
theorem revTo_len (L : List W32) (k : Nat) : (revTo L k).length = L.length := by simp [revTo]
theorem revTo_co (L : List W32) (k : Nat) {i : Nat} (h : i < L.length) : (revTo L k).getD i 0 = if i < k ∨ L.length - k ≤ i then L.getD (L.length - 1 - i) 0 else L.getD i 0 := by
  rw [List.getD_eq_getElem?_getD]
  simp [revTo, h]
theorem revTo_zero (L : List W32) : revTo L 0 = L := Gf.list_ext_co (revTo_len L 0) fun i hi => by
  rw [revTo_len] at hi
  rw [revTo_co L 0 hi, if_neg (by omega)]
theorem revTo_all {L : List W32} {k : Nat} (h : L.length ≤ 2 * k + 1) : revTo L k = L.reverse := Gf.list_ext_co (by rw [revTo_len, List.length_reverse]) fun i hi => by
  rw [revTo_len] at hi
  obtain ⟨n, hn⟩ : ∃ n, L.length = n + 1 := ⟨L.length - 1, by omega⟩
  rw [revTo_co L k hi, getD_rev hn (by omega), hn]
  split
  · rw [Nat.add_sub_cancel]
  · rw [show n - i = i by omega]
theorem revTo_step {L : List W32} {k : Nat} {a b : W32} (hk : 2 * k + 1 < L.length) (ha : L[k]? = some a) (hb : L[L.length - 1 - k]? = some b) : ((revTo L k).set k b).set (L.length - 1 - k) a = revTo L (k + 1) := by
  refine Gf.list_ext_co (by simp [revTo_len]) fun i hi => ?_
  rw [List.length_set, List.length_set, revTo_len] at hi
  rw [getD_set (by rw [List.length_set, revTo_len]; omega), getD_set (by rw [revTo_len]; omega), revTo_co L k hi, revTo_co L (k + 1) hi]
  by_cases h1 : i = L.length - 1 - k
  · rw [if_pos h1, if_pos (by omega), show L.length - 1 - i = k by omega, getD_at ha]
  · rw [if_neg h1]
    by_cases h2 : i = k
    · rw [if_pos h2, if_pos (by omega), h2, getD_at hb]
    · rw [if_neg h2]
      by_cases h3 : i < k ∨ L.length - k ≤ i
      · rw [if_pos h3, if_pos (by omega)]
      · rw [if_neg h3, if_neg (by omega)]
theorem revTo_mid {L : List W32} {k i : Nat} (h1 : k ≤ i) (h2 : i < L.length - k) : (revTo L k)[i]? = L[i]? := by
  have hi : i < L.length := by omega
  have h3 := revTo_co L k hi
  rw [if_neg (by omega)] at h3
  rw [List.getD_eq_getElem?_getD, List.getD_eq_getElem?_getD, List.getElem?_eq_getElem hi, List.getElem?_eq_getElem (by rw [revTo_len]; exact hi)] at h3
  rw [List.getElem?_eq_getElem hi, List.getElem?_eq_getElem (by rw [revTo_len]; exact hi)]
  simpa using h3
def InvRev (σ : St) (r : Nat) (L : List W32) (m : Nat) (e : Env) (s : St) : Prop := ∃ k : Nat, e = [(0, .sl r 0 L.length 1), (2, I k), (3, I ((L.length : Int) - 1 - k))] ∧ m = L.length - k ∧ 2 * k ≤ L.length ∧ s.objs[r]? = some (.cells (wV (revTo L k))) ∧ Fr [r] σ s ∧ s.toks = σ.toks
theorem s_Reverse {σ : St} {r : Nat} {L : List W32} (h : σ.objs[r]? = some (.cells (wV L))) (hl : L.length ≤ 100000) : Dn.Call Γ cx .raw 37 [.sl r 0 L.length 1] σ fun _ s => s.objs[r]? = some (.cells (wV L.reverse)) ∧ Fr [r] σ s ∧ s.toks = σ.toks := by
  refine Dn.Call.body (fc := c37) rfl ?_
  have w1 : IntKind.i64.wrap ((L.length : Int) - 1) = (L.length : Int) - 1 := wrap_i64 (by omega) (by omega)
  simp -implicitDefEqProofs [c37, lenT, Dn.lenV, w1, c37_k5]
  refine wloopI (InvRev σ r L) (m := L.length) ⟨0, by simp [Env.pick, Env.get], rfl, by omega, by rw [revTo_zero]; exact h, Fr.refl _ _, rfl⟩ ?_
  rintro m e s ⟨k, rfl, rfl, hk, ho, hfr, htk⟩
  rcases hkd : decide ((k : Int) < (L.length : Int) - 1 - k) with _ | _
  · have hlt : ¬ (k : Int) < (L.length : Int) - 1 - k := of_decide_eq_false hkd
    rw [revTo_all (by omega)] at ho
    simp -implicitDefEqProofs [hlt, c37_l4, c37_k3]
    exact ⟨ho, hfr, htk⟩
  have hlt : (k : Int) < (L.length : Int) - 1 - k := of_decide_eq_true hkd
  obtain ⟨a, ha⟩ : ∃ a, L[k]? = some a := ⟨_, List.getElem?_eq_getElem (by omega)⟩
  obtain ⟨b, hb⟩ : ∃ b, L[L.length - 1 - k]? = some b := ⟨_, List.getElem?_eq_getElem (by omega)⟩
  have hst := revTo_step (by omega) ha hb
  have ha' : (revTo L k)[k]? = some a := by rw [revTo_mid (by omega) (by omega)]; exact ha
  have hb' : (revTo L k)[L.length - 1 - k]? = some b := by rw [revTo_mid (by omega) (by omega)]; exact hb
  have hl0 := revTo_len L k
  obtain ⟨j, hj⟩ : ∃ j, L.length - 1 - k = j := ⟨_, rfl⟩
  have hjI : (L.length : Int) - 1 - k = (j : Int) := by omega
  rw [hj] at hst hb' hb
  rw [hjI] at hlt ⊢
  obtain ⟨n, hn⟩ : ∃ n, L.length = n := ⟨_, rfl⟩
  have s1 := wV_set (L := revTo L k) (i := k) (by omega) b
  have s2 := wV_set (L := (revTo L k).set k b) (i := j) (by simp; omega) a
  rw [hst] at s2
  have iak := fun σ => iaddr_sl σ (q := r) (n := n) (i := k) (by omega)
  have iaj := fun σ => iaddr_sl σ (q := r) (n := n) (i := j) (by omega)
  have hak := wV_at ha'
  have hbj := wV_at hb'
  have l1 := wV_len (revTo L k)
  have l2 := wV_len ((revTo L k).set k b)
  rw [List.length_set, hl0, hn] at l2
  rw [hl0, hn] at l1
  have hrs : r < s.objs.length := (List.getElem?_eq_some_iff.1 ho).1
  have og : ∀ o, (s.objs.set r o)[r]? = some o := fun o => by simp [hrs]
  have wk : IntKind.i64.wrap ((k : Int) + 1) = ((k + 1 : Nat) : Int) := by rw [wrap_i64 (by omega) (by omega)]; omega
  have wj : IntKind.i64.wrap ((j : Int) - 1) = (n : Int) - 1 - ((k + 1 : Nat) : Int) := by rw [wrap_i64 (by omega) (by omega)]; omega
  have hk1 : k + 1 ≤ n := by omega
  have hj1 : j + 1 ≤ n := by omega
  generalize wV (revTo L k) = ca at *
  generalize wV ((revTo L k).set k b) = cb at *
  rw [hn]
  simp -implicitDefEqProofs [hlt, c37_l4, c37_k3, c37_k2, c37_k1]
  refine w_drwX (fun _ => .val) [] (by decide +kernel) ?_
  simp only [room_zero]
  simp -implicitDefEqProofs [-splice, iak, iaj, ho, hak, hbj, l1, hk1, s1]
  simp -implicitDefEqProofs [-splice, iaj, og, l2, hj1, s2, c37_k0, wk, wj]
  exact ⟨n - (k + 1), by omega, k + 1, by rw [hn]; rfl, by rw [hn], by omega, by simp [hrs], fr_set1 hfr, htk⟩

def InvEq (x y : D) (n : Nat) (m : Nat) (e : Env) (s : St) : Prop := ∃ i : Nat, e = [(0, .d x), (1, .d y), (12, I n), (13, I i)] ∧ m = n - i ∧ i ≤ n ∧ s = St.empty
theorem s_Equal {x y : D} {X Y : List W32} (hx : PL x X) (hy : PL y Y) (lX : X.length ≤ 100000) (lY : Y.length ≤ 100000) : Dn.Call Γ cx .val 39 [.d x, .d y] St.empty fun v _ => v = B (decide (X = Y)) := by
  refine Dn.Call.body (fc := c39) rfl ?_
  have hlx : ∀ σ, lenT σ .slice (.d x) = some X.length := fun σ => by rw [hx.len, pR_len]
  have hly : ∀ σ, lenT σ .slice (.d y) = some Y.length := fun σ => by rw [hy.len, pR_len]
  by_cases hl : X.length = Y.length
  rotate_left
  · have hne : X ≠ Y := fun e => hl (by rw [e])
    have hlI : ¬ (X.length : Int) = Y.length := by omega
    simp -implicitDefEqProofs [c39, c39_k9, hlx, hly, hl, hlI, c39_k8, hne]
  simp -implicitDefEqProofs [c39, c39_k9, hlx, hly, hl, c39_k8, c39_k7, c39_k6]
  refine wloopI (fun m e s => InvEq x y X.length m e s ∧ ∀ i, i + m < X.length → X.getD i 0 = Y.getD i 0) (m := X.length) ⟨⟨0, by rw [hl]; rfl, rfl, by omega, rfl⟩, fun i hi => by omega⟩ ?_
  rintro m e s ⟨⟨i, rfl, rfl, hi, rfl⟩, hall⟩
  rcases hin : decide ((i : Int) < X.length) with _ | _
  · have hlt : ¬ (i : Int) < X.length := of_decide_eq_false hin
    have heq : X = Y := Gf.list_ext_co hl fun j hj => hall j (by omega)
    simp -implicitDefEqProofs [hlt, c39_l5, c39_k4, heq]
    omega
  have hlt : (i : Int) < X.length := of_decide_eq_true hin
  obtain ⟨a, ha⟩ : ∃ a, X[i]? = some a := ⟨_, List.getElem?_eq_getElem (by omega)⟩
  obtain ⟨b, hb⟩ : ∃ b, Y[i]? = some b := ⟨_, List.getElem?_eq_getElem (by omega)⟩
  have hia := fun σ => hx.iaddr σ (k := .i64) (sz := 1) (i := i) (pR_at ha) rfl
  have hib := fun σ => hy.iaddr σ (k := .i64) (sz := 1) (i := i) (pR_at hb) rfl
  have w9 : IntKind.i64.wrap ((i : Int) + 1) = ((i + 1 : Nat) : Int) := by rw [wrap_i64 (by omega) (by omega)]; omega
  simp -implicitDefEqProofs [hlt, c39_l5, c39_k4, c39_k3, c39_k2, c39_k1]
  refine w_drwX (fun _ => .val) [] (by decide +kernel) ?_
  simp only [room_zero]
  simp -implicitDefEqProofs [hia, hib]
  by_cases hab : a = b
  · subst hab
    simp -implicitDefEqProofs [c39_k0, w9]
    refine ⟨X.length - (i + 1), by omega, ⟨i + 1, rfl, rfl, by omega, rfl⟩, fun j hj => ?_⟩
    by_cases hji : j = i
    · subst hji
      have e1 := getD_at ha
      have e2 := getD_at hb
      rw [List.getD_eq_getElem?_getD] at e1 e2
      exact e1.trans e2.symm
    · have := hall j (by omega)
      rw [List.getD_eq_getElem?_getD, List.getD_eq_getElem?_getD] at this
      exact this
  · have hu : ¬ un a = un b := fun e => hab (by rw [← wof_un a, e, wof_un])
    have hne : X ≠ Y := fun e => hab (by rw [e, hb] at ha; exact (Option.some.inj ha).symm)
    simp -implicitDefEqProofs [hu, c39_k0, hne]

/-! ### sketches as they are read -/
def fnL (n : Nat) (f : Nat → W32) : List W32 := (List.range n).map f
theorem fnL_len (n : Nat) (f : Nat → W32) : (fnL n f).length = n := by simp [fnL]
theorem fnL_wV (n : Nat) (f : Nat → W32) : wV (fnL n f) = fnV n f := by
  unfold wV fnL fnV
  rw [List.map_map]
  rfl
theorem fnL_co {n : Nat} (f : Nat → W32) {k : Nat} (h : k < n) : (fnL n f).getD k 0 = f k := by
  rw [List.getD_eq_getElem?_getD]
  simp [fnL, h]
/-- The object of a sketch, as it is read. -/
structure SkR (s : St) (y : Nat) (v : V) (L : List W32) : Prop where
  o : s.objs[y]? = some (.cells [v])
  r : Rd s v L
  n : ∀ r off n sz, v = .sl r off n sz → r ≠ y
theorem SkR.fr {σ s : St} {y : Nat} {v : V} {L : List W32} (h : SkR σ y v L) (hf : Fr [] σ s) : SkR s y v L := ⟨hf.get h.o (by simp), h.r.fr hf, h.n⟩
theorem Sk.toR {s : St} {y r n : Nat} {f : Nat → W32} (h : Sk s y r n f) (hne : r ≠ y) : SkR s y (.sl r 0 n 1) (fnL n f) := by
  refine ⟨h.o, ?_, fun r' off n' sz e => by cases e; exact hne⟩
  have hl := h.l
  rw [← fnL_wV] at hl
  have := Rd.whole hl
  rwa [fnL_len] at this
/-! powers -/
def powTo (L : List W32) : Nat → List W32
  | 0 => []
  | i + 1 => powTo L i ++ [if i % 2 = 0 then L.getD (i / 2) 0 else Gf.sq ((powTo L i).getD (i / 2) 0)]
theorem powTo_len (L : List W32) : ∀ i, (powTo L i).length = i
  | 0 => rfl
  | i + 1 => by simp [powTo, powTo_len L i]
def powL (L : List W32) : List W32 := powTo L (2 * L.length)
theorem powTo_co (L : List W32) : ∀ {n i : Nat}, i < n → (powTo L n).getD i 0 = if i % 2 = 0 then L.getD (i / 2) 0 else Gf.sq ((powTo L i).getD (i / 2) 0)
  | 0, i, h => by omega
  | n + 1, i, h => by
    simp only [powTo]
    rw [List.getD_eq_getElem?_getD]
    by_cases hi : i < n
    · rw [List.getElem?_append_left (by rw [powTo_len]; exact hi), ← List.getD_eq_getElem?_getD]
      exact powTo_co L hi
    · obtain rfl : i = n := by omega
      rw [List.getElem?_append_right (by rw [powTo_len]; exact Nat.le_refl _), powTo_len, Nat.sub_self]
      rfl
def InvPw (σ : St) (y : Nat) (L : List W32) (N : Nat) (m : Nat) (e : Env) (s : St) : Prop := ∃ i : Nat, e = [(0, .ref y 0), (3, .sl σ.objs.length 0 N 1), (13, I N), (14, I i)] ∧ m = N - i ∧ i ≤ N ∧ New σ s (.sl σ.objs.length 0 N 1) (powTo L i ++ List.replicate (N - i) 0)
theorem pow_set (L : List W32) {N i : Nat} (hi : i < N) (w : W32) : (powTo L i ++ List.replicate (N - i) 0).set i w = (powTo L i ++ [w]) ++ List.replicate (N - (i + 1)) 0 := by
  obtain ⟨k, hk⟩ : ∃ k, N - i = k + 1 := ⟨N - i - 1, by omega⟩
  have hk2 : N - (i + 1) = k := by omega
  rw [hk, hk2, List.set_append_right _ _ (by rw [powTo_len]; exact Nat.le_refl _), powTo_len, Nat.sub_self, List.replicate_succ, List.set_cons_zero, List.append_assoc]
  rfl
theorem s_powers {σ : St} {y : Nat} {v : V} {L : List W32} (h : SkR σ y v L) (lL : L.length ≤ 100) : Dn.Call Γ cx .rd 36 [.ref y 0] σ (isPL (powL L)) := by
  refine Dn.Call.body (fc := c36) rfl ?_
  have hl := fun σ => h.r.len σ
  have w1 : IntKind.i64.wrap (2 * (L.length : Int)) = ((2 * L.length : Nat) : Int) := by rw [wrap_i64 (by omega) (by omega)]; omega
  obtain ⟨N, hN⟩ : ∃ N, 2 * L.length = N := ⟨_, rfl⟩
  rw [hN] at w1
  simp -implicitDefEqProofs [c36, c36_k10, nilCheckV, h.o, hl, w1]
  refine i_app_f (v := .sl σ.objs.length 0 N 1) (s := ⟨σ.objs ++ [.cells (wV (List.replicate N 0))], σ.toks⟩) ?_ ?_
  · have b1 : (N : Int) * 4 ≤ 140737488355328 := by omega
    have b2 : (N : Int) ≤ 9223372036854775807 := by omega
    simp [evalE, Opd.ev, Env.get, b1, b2, repl_wV, Dn.newObj, St.place, St.push, St.spot]
  simp -implicitDefEqProofs [c36_k9, lenT, Dn.lenV, c36_k8]
  have hyl : y < σ.objs.length := (List.getElem?_eq_some_iff.1 h.o).1
  have h00 : New σ ⟨σ.objs ++ [.cells (wV (List.replicate N 0))], σ.toks⟩ (.sl σ.objs.length 0 N 1) (powTo L 0 ++ List.replicate (N - 0) 0) := by
    refine ⟨?_, Fr.push1 _ _, fun r off n sz e => by cases e; exact Nat.le_refl _, rfl⟩
    have : Ob ⟨σ.objs ++ [.cells (wV (List.replicate N 0))], σ.toks⟩ (.sl σ.objs.length 0 (List.replicate N (0 : W32)).length 1) (List.replicate N 0) := .sl (by simp)
    rw [List.length_replicate] at this
    exact this
  refine wloopI (InvPw σ y L N) (m := N) ⟨0, rfl, rfl, by omega, h00⟩ ?_
  rintro m e s ⟨i, rfl, rfl, hi, hN2⟩
  have hS := h.fr hN2.fr
  rcases hin : decide ((i : Int) < N) with _ | _
  · have hlt : ¬ (i : Int) < N := of_decide_eq_false hin
    obtain rfl : i = N := by omega
    rw [Nat.sub_self, List.replicate_zero, List.append_nil] at hN2
    obtain ⟨d, b1, l1⟩ := hN2.ob.rd.byVal
    have hbn : V.byValN σ.objs.length s (.sl σ.objs.length 0 i 1) = some (.d d) := by
      simp only [V.byValN]
      rw [if_pos (Nat.le_refl _)]
      exact b1
    simp -implicitDefEqProofs [hlt, c36_l7, c36_k6, c36_k0, hbn]
    exact ⟨hN2.fr.keeps (fun t k ht => by rw [hN2.tk]; exact ht), d, rfl, by unfold powL; rw [hN]; exact l1⟩
  have hlt : (i : Int) < N := of_decide_eq_true hin
  have hi2 : i < N := by omega
  have hset := fun w => hN2.set (i := i) hi2 (by simp [powTo_len]; omega) w
  have hsv := fun w => wV_set (L := powTo L i ++ List.replicate (N - i) 0) (i := i) (by simp [powTo_len]; omega) w
  have hps := fun w => pow_set L hi2 w
  have hob := hN2.obj.1
  have hlV := wV_len (powTo L i ++ List.replicate (N - i) (0 : W32))
  have hll : (powTo L i ++ List.replicate (N - i) (0 : W32)).length = N := by simp [powTo_len]; omega
  rw [hll] at hlV
  have ia := fun s => iaddr_sl s (q := σ.objs.length) (n := N) (i := i) hi2
  have w9 : IntKind.i64.wrap ((i : Int) + 1) = ((i + 1 : Nat) : Int) := by rw [wrap_i64 (by omega) (by omega)]; omega
  have w2 : IntKind.i64.wrap ((i : Int) / 2) = ((i / 2 : Nat) : Int) := by
    rw [wrap_i64 (by omega) (by omega)]
    omega
  have hrem : (i : Int).tmod 2 = ((i % 2 : Nat) : Int) := rfl
  obtain ⟨k, hk⟩ : ∃ k, i / 2 = k := ⟨_, rfl⟩
  rw [hk] at w2
  have hi1 : i + 1 ≤ N := by omega
  by_cases hev : i % 2 = 0
  · obtain ⟨a, ha⟩ : ∃ a, L[k]? = some a := ⟨_, List.getElem?_eq_getElem (by omega)⟩
    obtain ⟨ad, h1, h2⟩ := hS.r.at ha
    have hstep : powTo L (i + 1) = powTo L i ++ [a] := by
      simp only [powTo]
      rw [if_pos hev, hk, getD_at ha]
    have e0 : ((i % 2 : Nat) : Int) = 0 := by omega
    have hs1 := hset a
    have hs2 := hsv a
    rw [hps, ← hstep] at hs1 hs2
    generalize wV (powTo L i ++ List.replicate (N - i) (0 : W32)) = cs at *
    simp -implicitDefEqProofs [-loadAt, -splice, hlt, c36_l7, c36_k6, c36_k5, c36_k4, c36_k3, hrem, e0, hev, c36_k2, c36_k1]
    have hl0 : loadAt s false 1 (.ref y 0) = some v := by simp [loadAt, hS.o]
    simp -implicitDefEqProofs [-loadAt, -splice, nilCheckV, hl0, w2, h1, h2, ia, hob, hlV, hi1, hs2, w9]
    exact ⟨N - (i + 1), by omega, i + 1, rfl, rfl, by omega, hs1⟩
  · obtain ⟨a, ha⟩ : ∃ a, (powTo L i)[k]? = some a := ⟨_, List.getElem?_eq_getElem (by rw [powTo_len]; omega)⟩
    have ha2 : (powTo L i ++ List.replicate (N - i) (0 : W32))[k]? = some a := by rw [List.getElem?_append_left (by rw [powTo_len]; omega)]; exact ha
    have hat := wV_at ha2
    have hstep : powTo L (i + 1) = powTo L i ++ [Gf.mul a a] := by
      simp only [powTo]
      rw [if_neg hev, hk, getD_at ha]
      rfl
    have e0 : ¬ (i : Int) % 2 = 0 := by omega
    have hs1 := hset (Gf.mul a a)
    have hs2 := hsv (Gf.mul a a)
    rw [hps, ← hstep] at hs1 hs2
    have iak := fun s => iaddr_sl s (q := σ.objs.length) (n := N) (i := k) (by omega)
    generalize wV (powTo L i ++ List.replicate (N - i) (0 : W32)) = cs at *
    simp -implicitDefEqProofs [hlt, c36_l7, c36_k6, c36_k5, c36_k4, c36_k3, hrem, e0, hev, c36_k2, w2, iak, hob, hat]
    refine use_fn rfl (s_Square a) rfl ?_
    simp -implicitDefEqProofs [-splice, ia, hob, hlV, hi1, hs2, w9]
    exact ⟨N - (i + 1), by omega, i + 1, rfl, rfl, by omega, hs1⟩
end Go.Proofs.Ytmlkdfjojoophaa.T

namespace Go.Proofs.Ytmlkdfjojoophaa.T
open Go.Dn
attribute [local simp] body_eq globEnv GB List.map_nil List.map_cons List.append_nil w_rangeF i_next i_makeMap i_range i_update i_delete i_entry i_clone entryV cloneV q_rndA q_rndB_n q_rndB_e q_rndB_r setAll w_skip w_ops w_seq w_cond w_block w_exit w_ret q_then_n q_then_e q_then_r q_blk_n q_blk_e q_blk_r q_ops q_cont q_end_n q_end_r q_end_e q_loop_n q_loop_e q_loop_r i_nil i_p i_alloc i_box i_store i_copy i_clear i_call i_callv i_when t_nil t_p t_call t_alloc t_box t_store kept_nil t_copy t_clear q_tcont gsel List.cons_append List.nil_append evalP evalE evalF evalB isObj thaw Opd.ev Env.get Env.set Env.pick putE initEnv evalBin intBin evalUn evalConv goneAll goneOne retV resAll Res.ev tupOf byVals byValsN bv_d bv_da bv_fl bv_tl bn_d bn_da bn_fl bn_tl cx Dn.newObj St.place St.push St.spot St.empty cell_d cell_da cell_agg cell_ref cell_sl cell_fl cell_tl cell_map cell_fn cell_ifc loadAt faddrV partOf extractV mkAgg ofD splice St.setObj fillV
set_option linter.unusedSimpArgs false
set_option linter.unusedVariables false
open Gf (dg)

/-! ### which sets have given sums -/
def osum (T : List W32) (k : Nat) : W32 := lsum T fun x => oddp x k
theorem acc_map (f : Nat → W32) (k : Nat) : ∀ (T : List W32), acc f (T.map un) k = f k ^^^ osum T k := by
  intro T
  unfold acc osum
  generalize f k = a
  induction T generalizing a with
  | nil => exact (Gf.x0 a).symm
  | cons x T ih =>
    simp only [List.map_cons, List.foldl_cons, lsum]
    rw [ih, wof_un, BitVec.xor_assoc]
theorem acc_osum (T : List W32) : acc (fun _ => 0) (T.map un) = osum T := by
  funext k
  rw [acc_map]
  exact Gf.zx _
theorem uRows_map (T : List W32) : uRows (T.map un) = pR T := by
  unfold uRows pR
  rw [List.map_map]
  rfl
theorem un_bound (T : List W32) : ∀ i ∈ T.map un, 0 ≤ i ∧ i ≤ 4294967295 := fun i hi => by
  obtain ⟨w, _, rfl⟩ := List.mem_map.1 hi
  have := w.isLt
  simp only [un]
  omega
theorem un_zero_mem (T : List W32) : (0 : Int) ∈ T.map un ↔ (0 : W32) ∈ T := by
  constructor
  · intro h
    obtain ⟨w, hw, h0⟩ := List.mem_map.1 h
    have := (un_zero_iff w).1 h0
    rwa [this] at hw
  · intro h
    exact List.mem_map.2 ⟨0, h, rfl⟩
structure Valid (L T : List W32) : Prop where
  nd : T.Nodup
  nz : (0 : W32) ∉ T
  ln : T.length ≤ L.length
  sm : ∀ k, k < L.length → L.getD k 0 = osum T k
theorem sq_npow (x : W32) (n : Nat) : Gf.sq (Gf.npow x n) = Gf.npow x (2 * n) := by
  unfold Gf.sq
  rw [← Gf.npow_add, Nat.two_mul]
theorem sq_lsum (f : W32 → W32) : ∀ T : List W32, Gf.sq (lsum T f) = lsum T fun x => Gf.sq (f x)
  | [] => Gf.sq_zero
  | x :: T => by simp only [lsum]; rw [Gf.sq_xor, sq_lsum f T]
theorem pows_of {L T : List W32} (h : ∀ k, k < L.length → L.getD k 0 = osum T k) : ∀ n, n ≤ 2 * L.length → ∀ i, i < n → (powTo L n).getD i 0 = lsum T fun x => Gf.npow x (i + 1) := by
  intro n hn i
  induction i using Nat.strongRecOn generalizing n with
  | _ i ih =>
    intro hi
    rw [powTo_co L hi]
    split
    · rename_i he
      rw [h _ (by omega)]
      unfold osum oddp
      rw [show 2 * (i / 2) + 1 = i + 1 by omega]
    · rename_i he
      rw [ih (i / 2) (by omega) i (by omega) (by omega), sq_lsum]
      refine lsum_congr fun x _ => ?_
      rw [sq_npow, show 2 * (i / 2 + 1) = i + 1 by omega]
theorem Valid.pows {L T : List W32} (h : Valid L T) : Pows T (powL L) := fun i hi => pows_of h.sm (2 * L.length) (Nat.le_refl _) i (by
  unfold powL at hi
  rwa [powTo_len] at hi)
theorem Valid.rule {L T : List W32} (h : Valid L T) : (ruleL (powL L)).reverse = Gf.prodL T :=
  rule_prod h.nd h.nz h.pows (by unfold powL; rw [powTo_len]; have := h.ln; omega)
/-- There is at most one set. -/
theorem Valid.unique {L T T' : List W32} (h : Valid L T) (h' : Valid L T') : T.Perm T' := by
  have e : Gf.prodL T = Gf.prodL T' := h.rule.symm.trans h'.rule
  refine (List.perm_ext_iff_of_nodup h.nd h'.nd).2 fun x => ?_
  rw [← Gf.ev_prodL (S := T), e, Gf.ev_prodL]
theorem lsum_perm (f : W32 → W32) {T T' : List W32} (h : T.Perm T') : lsum T f = lsum T' f := by
  induction h with
  | nil => rfl
  | cons x _ ih => simp only [lsum]; rw [ih]
  | swap x y l => simp only [lsum]; rw [← BitVec.xor_assoc, ← BitVec.xor_assoc, BitVec.xor_comm (f y)]
  | trans _ _ h1 h2 => exact h1.trans h2
theorem Valid.perm {L T T' : List W32} (h : Valid L T) (hp : T.Perm T') : Valid L T' :=
  ⟨hp.nodup_iff.1 h.nd, fun e => h.nz (hp.mem_iff.2 e), by rw [← hp.length_eq]; exact h.ln, fun k hk => by rw [h.sm k hk]; exact lsum_perm _ hp⟩
/-- Those that stand an odd number of times. -/
theorem odd_set : ∀ ids : List W32, ∃ T : List W32, T.Nodup ∧ (∀ x ∈ T, x ∈ ids) ∧ T.length ≤ ids.length ∧ ∀ f, lsum T f = lsum ids f
  | [] => ⟨[], List.nodup_nil, by simp, Nat.le_refl _, fun _ => rfl⟩
  | x :: ids => by
    obtain ⟨T, h1, h2, h3, h4⟩ := odd_set ids
    by_cases hx : x ∈ T
    · have hp := List.perm_cons_erase hx
      refine ⟨T.erase x, h1.erase x, fun y hy => List.mem_cons_of_mem _ (h2 y (List.mem_of_mem_erase hy)), ?_, fun f => ?_⟩
      · have := hp.length_eq
        simp at this ⊢
        omega
      · have := lsum_perm f hp
        simp only [lsum] at this ⊢
        rw [← h4 f, this, ← BitVec.xor_assoc, Gf.xs, Gf.zx]
    · exact ⟨x :: T, List.nodup_cons.2 ⟨hx, h1⟩, fun y hy => by
        rcases List.mem_cons.1 hy with rfl | hy
        · simp
        · exact List.mem_cons_of_mem _ (h2 y hy), by simp; omega, fun f => by simp only [lsum]; rw [h4 f]⟩

/-! ### New, with a 0 -/
theorem s_skPutZ {σ : St} {x : Nat} {v : V} {ids : List Int} (hv : LV v (uRows ids)) (hz : (0 : Int) ∈ ids) (hlen : ids.length ≤ 1000) :
    Dn.Call Γ cx .raw 28 [.ref x 0, v] σ fun w s => w = errV 1 ∧ s = σ := by
  refine Dn.Call.body (fc := c28) rfl ?_
  have hdv := hv.dv σ
  obtain ⟨y, hy⟩ := hdv.2.2.1
  have hc := s_Contains (x := y) (L := ids) (hy ▸ hdv.2.1) (h := 0) (by omega)
  have hcv : decide ((0 : Int) ∈ ids) = true := by simpa using hz
  rw [hcv] at hc
  simp -implicitDefEqProofs [c28, c28_k7, eqV, V.isNil, Opd.isC]
  refine use_fn (ds := [.d y, X 0]) (by simp only [byVals, bv_d, hdv.1, hy]) hc (Bool.or_true _) ?_
  simp -implicitDefEqProofs [c28_k6, mkifV, errV]
theorem s_skNewZ {σ : St} {n : Nat} (h1 : 1 ≤ n) (h2 : n ≤ 40) {v : V} {ids : List Int} (hv : LV v (uRows ids)) (hz : (0 : Int) ∈ ids) (hlen : ids.length ≤ 1000) :
    Dn.Call Γ cx .raw 11 [I n, v] σ fun w s => w = .tup [.d .nilp, errV 1] ∧ Fr [] σ s ∧ s.toks = σ.toks := by
  refine Dn.Call.body (fc := c11) rfl ?_
  have l1 : ¬ (n : Int) < 1 := by omega
  have l2 : ¬ (40 : Int) < n := by omega
  have l1' : (1 : Int) ≤ n := by omega
  have l2' : (n : Int) ≤ 40 := by omega
  obtain ⟨n1, hn1⟩ : ∃ n1 : Int, (n : Int) = n1 := ⟨_, rfl⟩
  simp -implicitDefEqProofs [c11, c11_k6, l1, l2, c11_k5]
  simp -implicitDefEqProofs [c11_k4]
  refine i_app_f (v := .sl σ.objs.length 0 n 1) (s := ⟨σ.objs ++ [.cells (fnV n fun _ => 0)], σ.toks⟩) ?_ ?_
  · have hb : (n : Int) * 4 ≤ 140737488355328 := by omega
    have hb2 : (n : Int) ≤ 9223372036854775807 := by omega
    have hr : repl n [.int .u32 0] = fnV n fun _ => 0 := by
      rw [← zeros_fn]
      exact repl_one n
    simp [evalE, Opd.ev, Env.get, hb, hb2, hr, Dn.newObj, St.place, St.push, St.spot]
  simp -implicitDefEqProofs
  refine use_raw (s_skPutZ hv hz hlen) fun w s ⟨hw, hs⟩ => ?_
  subst hw hs
  simp -implicitDefEqProofs [errV, eqV, V.isNil, Opd.isC, c11_k3, c11_k2, c11_k1]
  exact ⟨by simp, fun q _ hq => by simp only; rw [List.getElem?_append_left hq]⟩

/-! ### Decode -/
def decQ (L : List W32) (v : V) : Prop := (v = .tup [.d .nils, errV 13] ∧ ∀ T, ¬ Valid L T) ∨ (∃ d T, v = .tup [.d d, .d .nili] ∧ PL d T ∧ Valid L T ∧ T.Pairwise fun a b => un a ≤ un b)
theorem dec_eq {σ s : St} {y x r : Nat} {v : V} {L ids : List W32} {d : D} (hy : SkR s y v L) (lL : L.length ≤ 40) (hx : SkR s x (.sl r 0 L.length 1) (fnL L.length (osum ids))) (hf : Fr [] σ s) (ht : s.toks = σ.toks) (hok : fnL L.length (osum ids) = L → ∃ T, PL d T ∧ Valid L T ∧ T.Pairwise fun a b => un a ≤ un b) (hno : fnL L.length (osum ids) ≠ L → ∀ T, ¬ Valid L T) :
    wcode (Dn.Call Γ cx) cx c15_k2 [(0, .ref y 0), (5, .d d), (7, .ref x 0), (8, .d .nili)] s (endQ .raw σ c15.res fun w s => decQ L w ∧ Fr [] σ s ∧ s.toks = σ.toks) := by
  obtain ⟨d1, b1, l1⟩ := hx.r.byVal
  obtain ⟨d2, b2, l2⟩ := hy.r.byVal
  have hlx := fnL_len L.length (osum ids)
  simp only [c15_k2, w_seq, c15]
  refine w_drwX (fun _ => .val) [] (by decide +kernel) ?_
  simp only [room_zero]
  simp -implicitDefEqProofs [eqV, V.isNil, Opd.isC, nilCheckV, hx.o, hy.o]
  refine use_fnN (ds := [.d d1, .d d2]) rfl (by simp only [byVals, b1, b2]) (s_Equal l1 l2 (by omega) (by omega)) (Bool.or_true _) ?_
  simp only [q_tcont, putE, Env.set]
  by_cases he : fnL L.length (osum ids) = L
  · obtain ⟨T, h1, h2, h3⟩ := hok he
    simp -implicitDefEqProofs [he, c15_k1, c15_k0]
    exact ⟨.inr ⟨d, T, rfl, h1, h2, h3⟩, hf, ht⟩
  · simp -implicitDefEqProofs [he, c15_k1, mkifV]
    exact ⟨.inl ⟨rfl, hno he⟩, hf, ht⟩
theorem dec_err {σ s : St} {y : Nat} {L : List W32} {d : D} (hf : Fr [] σ s) (ht : s.toks = σ.toks) (hno : ∀ T, ¬ Valid L T) :
    wcode (Dn.Call Γ cx) cx c15_k2 [(0, .ref y 0), (5, .d d), (7, .d .nilp), (8, .d (.iface 39 (.int .i64 1)))] s (endQ .raw σ c15.res fun w s => decQ L w ∧ Fr [] σ s ∧ s.toks = σ.toks) := by
  simp only [c15_k2, w_seq, c15]
  refine w_drwX (fun _ => .val) [] (by decide +kernel) ?_
  simp only [room_zero]
  simp -implicitDefEqProofs [eqV, V.isNil, Opd.isC, nilCheckV, c15_k1, mkifV]
  exact ⟨.inl ⟨rfl, hno⟩, hf, ht⟩
theorem s_Decode {σ : St} {y : Nat} {v : V} {L : List W32} (h : SkR σ y v L) (l1 : 1 ≤ L.length) (l40 : L.length ≤ 40) : Dn.Call Γ cx .raw 15 [.ref y 0] σ fun w s => decQ L w ∧ Fr [] σ s ∧ s.toks = σ.toks := by
  refine Dn.Call.body (fc := c15) rfl ?_
  have hlv := fun σ => h.r.len σ
  have lp : (powL L).length = 2 * L.length := powTo_len L _
  simp -implicitDefEqProofs [c15, c15_k12, eqV, V.isNil, Opd.isC, c15_k11, c15_k10]
  refine use_rd' (s_powers h (by omega)) fun w s ⟨d, hw, hd⟩ => ?_
  subst hw
  simp -implicitDefEqProofs
  refine use_raw (s_Shortest hd (by omega)) fun w s ⟨r, hw, hN⟩ => ?_
  have hrl := ruleL_len (powL L)
  have hvr := fun {T : List W32} (hT : Valid L T) => hT.rule
  have hnb := (runM_len (powL L) (powL L).length).2.2.2
  generalize ruleL (powL L) = R at *
  generalize (runM (powL L) (powL L).length).len = n at *
  subst hw
  have hS := h.fr hN.fr
  have hob := hN.obj.1
  have hlsl : ∀ σ m, lenT σ .slice (.sl r 0 m 1) = some m := fun _ _ => rfl
  have w1 : IntKind.i64.wrap (n : Int) = (n : Int) := wrap_i64 (by omega) (by omega)
  by_cases hgt : L.length < n
  · have hgI : (L.length : Int) < n := by omega
    simp -implicitDefEqProofs [c15_k9, nilCheckV, hS.o, hlv, hlsl, hrl, w1, hgI, hgt, c15_k8, mkifV]
    refine ⟨.inl ⟨rfl, fun T hT => ?_⟩, hN.fr, hN.tk⟩
    have h2 := congrArg List.length (hvr hT)
    rw [List.length_reverse, hrl, Gf.prodL_len] at h2
    have := hT.ln
    omega
  have hgI : ¬ (L.length : Int) < n := by omega
  simp -implicitDefEqProofs [c15_k9, nilCheckV, hS.o, hlv, hlsl, hrl, w1, hgI, hgt, c15_k8, c15_k7]
  rw [← hrl]
  refine use_raw (s_Reverse hob (by omega)) fun w s2 ⟨ho2, hf2, ht2⟩ => ?_
  have hrf : σ.objs.length ≤ r := hN.nw _ _ _ _ rfl
  have hf2' : Fr [] σ s2 := ⟨Nat.le_trans hN.fr.len hf2.len, fun q _ hq => by
    rw [hf2.at_ q (by simp; omega) (Nat.lt_of_lt_of_le hq hN.fr.len)]
    exact hN.fr.at_ q (by simp) hq⟩
  have hrv : R.reverse.length = R.length := List.length_reverse
  have hlr : R.reverse.length = n + 1 := by omega
  have hrow : V.rows s2 (.sl r 0 R.length 1) = some (pR R.reverse) := by
    rw [← hrv]
    exact (Rd.whole ho2).rows
  generalize R.reverse = P at *
  simp -implicitDefEqProofs [c15_k6]
  refine use_thaw (ds := [.d (.list (pR P))]) (σ' := s2.setObj r .dead) (by simp only [thawV, hrow]) rfl rfl (s_Split (.list (pR P)) (by omega)) fun w s3 hw => ?_
  have hf3 : Fr [] σ (s2.setObj r .dead) := ⟨by simpa [St.setObj] using hf2'.len, fun q _ hq => by
    simp only [St.setObj]
    rw [List.getElem?_set_ne (by omega)]
    exact hf2'.at_ q (by simp) hq⟩
  have ht3 : (s2.setObj r .dead).toks = σ.toks := ht2.trans hN.tk
  have hS3 := h.fr hf3
  generalize s2.setObj r .dead = s4 at *
  have dP := Gf.dg_le P
  have hval : ∀ T, Valid L T → ¬ badP P ∧ (foundP (linearP P)).Perm T ∧ dg P = T.length + 1 := fun T hT => by
    have hPT : P = Gf.prodL T := hvr hT
    have hln := hT.ln
    have hd := Gf.prodL_dg T
    rw [hPT]
    refine ⟨?_, found_prod hT.nd (by omega), hd⟩
    unfold badP
    omega
  rcases hw with ⟨rfl, hbad⟩ | ⟨hnb2, d2, ids, rfl, hd2, hr2, hl2⟩
  · refine ⟨rfl, ?_⟩
    simp -implicitDefEqProofs [c15_k5, c15_k4, mkifV]
    refine ⟨.inl ⟨rfl, fun T hT => ?_⟩, hf3, ht3⟩
    obtain ⟨v1, v2, v3⟩ := hval T hT
    rcases hbad with hb | hb
    · exact v1 hb
    · rw [v2.length_eq, v3] at hb
      exact hb rfl
  refine ⟨rfl, ?_⟩
  simp -implicitDefEqProofs [c15_k5, c15_k4, c15_k3, nilCheckV, hS3.o, hlv]
  have hidl : ids.length ≤ 60 := hr2.2.2
  have hlvI : LV (.d d2) (uRows (ids.map un)) := by rw [uRows_map]; exact hd2
  have hvp : ∀ T, Valid L T → ids.Perm T := fun T hT => hr2.1.trans (hval T hT).2.1
  by_cases hz : (0 : W32) ∈ ids
  · refine use_raw (s_skNewZ l1 l40 hlvI ((un_zero_mem ids).2 hz) (by simp; omega)) fun w s5 ⟨hw, hf5, ht5⟩ => ?_
    subst hw
    simp -implicitDefEqProofs [errV]
    exact dec_err (hf3.trans hf5) (ht5.trans ht3) fun T hT => hT.nz ((hvp T hT).mem_iff.1 hz)
  refine use_raw (s_skNew l1 l40 hlvI (un_bound ids) (fun e => hz ((un_zero_mem ids).1 e)) (by simp; omega)) fun w s5 ⟨hw, hSk, hf5, ht5⟩ => ?_
  subst hw
  simp -implicitDefEqProofs
  rw [acc_osum] at hSk
  have hlS := (List.getElem?_eq_some_iff.1 hSk.l).1
  refine dec_eq (hS3.fr hf5) l40 (hSk.toR (by omega)) (hf3.trans hf5) (ht5.trans ht3) (fun he => ?_) (fun he T hT => ?_)
  · obtain ⟨T0, t1, t2, t3, t4⟩ := odd_set ids
    have hsm : ∀ k, k < L.length → L.getD k 0 = osum ids k := fun k hk => by
      have h6 := fnL_co (osum ids) hk
      rw [he] at h6
      exact h6
    have hT0 : Valid L T0 := ⟨t1, fun e => hz (t2 0 e), by omega, fun k hk => by rw [hsm k hk]; exact (t4 _).symm⟩
    exact ⟨ids, hd2, hT0.perm (hvp T0 hT0).symm, hr2.2.1⟩
  · apply he
    refine Gf.list_ext_co (fnL_len _ _) fun k hk => ?_
    rw [fnL_len] at hk
    rw [fnL_co _ hk, hT.sm k hk]
    exact lsum_perm _ (hvp T hT)
end Go.Proofs.Ytmlkdfjojoophaa.T

namespace Go.Proofs.Ytmlkdfjojoophaa.T
open Go.Dn
attribute [local simp] body_eq globEnv GB List.map_nil List.map_cons List.append_nil w_rangeF i_next i_makeMap i_range i_update i_delete i_entry i_clone entryV cloneV q_rndA q_rndB_n q_rndB_e q_rndB_r setAll w_skip w_ops w_seq w_cond w_block w_exit w_ret q_then_n q_then_e q_then_r q_blk_n q_blk_e q_blk_r q_ops q_cont q_end_n q_end_r q_end_e q_loop_n q_loop_e q_loop_r i_nil i_p i_alloc i_box i_store i_copy i_clear i_call i_callv i_when t_nil t_p t_call t_alloc t_box t_store kept_nil t_copy t_clear q_tcont gsel List.cons_append List.nil_append evalP evalE evalF evalB isObj thaw Opd.ev Env.get Env.set Env.pick putE initEnv evalBin intBin evalUn evalConv goneAll goneOne retV resAll Res.ev tupOf byVals byValsN bv_d bv_da bv_fl bv_tl bn_d bn_da bn_fl bn_tl cx Dn.newObj St.place St.push St.spot St.empty cell_d cell_da cell_agg cell_ref cell_sl cell_fl cell_tl cell_map cell_fn cell_ifc loadAt faddrV partOf extractV mkAgg ofD splice St.setObj fillV
set_option linter.unusedSimpArgs false
set_option linter.unusedVariables false

/-! ### Words, none, Is -/
theorem s_WordsW {x y : D} {X Y : List W32} (hx : PL x X) (hy : PL y Y) (lX : X.length ≤ 100000) (lY : Y.length ≤ 100000) : Dn.Call Γ cx .val 16 [.d x, .d y] St.empty fun v _ => v = B (decide (X = Y)) := by
  refine Dn.Call.body (fc := c16) rfl ?_
  have hlx : ∀ σ, lenT σ .slice (.d x) = some X.length := fun σ => by rw [hx.len, pR_len]
  have hly : ∀ σ, lenT σ .slice (.d y) = some Y.length := fun σ => by rw [hy.len, pR_len]
  by_cases hl : X.length = Y.length
  rotate_left
  · have hne : X ≠ Y := fun e => hl (by rw [e])
    have hlI : ¬ (X.length : Int) = Y.length := by omega
    simp -implicitDefEqProofs [c16, c16_k9, hlx, hly, hl, hlI, c16_k8, hne]
  simp -implicitDefEqProofs [c16, c16_k9, hlx, hly, hl, c16_k8, c16_k7, c16_k6]
  refine wloopI (fun m e s => InvEq x y X.length m e s ∧ ∀ i, i + m < X.length → X.getD i 0 = Y.getD i 0) (m := X.length) ⟨⟨0, by rw [hl]; rfl, rfl, by omega, rfl⟩, fun i hi => by omega⟩ ?_
  rintro m e s ⟨⟨i, rfl, rfl, hi, rfl⟩, hall⟩
  rcases hin : decide ((i : Int) < X.length) with _ | _
  · have hlt : ¬ (i : Int) < X.length := of_decide_eq_false hin
    have heq : X = Y := Gf.list_ext_co hl fun j hj => hall j (by omega)
    simp -implicitDefEqProofs [hlt, c16_l5, c16_k4, heq]
    omega
  have hlt : (i : Int) < X.length := of_decide_eq_true hin
  obtain ⟨a, ha⟩ : ∃ a, X[i]? = some a := ⟨_, List.getElem?_eq_getElem (by omega)⟩
  obtain ⟨b, hb⟩ : ∃ b, Y[i]? = some b := ⟨_, List.getElem?_eq_getElem (by omega)⟩
  have hia := fun σ => hx.iaddr σ (k := .i64) (sz := 1) (i := i) (pR_at ha) rfl
  have hib := fun σ => hy.iaddr σ (k := .i64) (sz := 1) (i := i) (pR_at hb) rfl
  have w9 : IntKind.i64.wrap ((i : Int) + 1) = ((i + 1 : Nat) : Int) := by rw [wrap_i64 (by omega) (by omega)]; omega
  simp -implicitDefEqProofs [hlt, c16_l5, c16_k4, c16_k3, c16_k2, c16_k1]
  refine w_drwX (fun _ => .val) [] (by decide +kernel) ?_
  simp only [room_zero]
  simp -implicitDefEqProofs [hia, hib]
  by_cases hab : a = b
  · subst hab
    simp -implicitDefEqProofs [c16_k0, w9]
    refine ⟨X.length - (i + 1), by omega, ⟨i + 1, rfl, rfl, by omega, rfl⟩, fun j hj => ?_⟩
    by_cases hji : j = i
    · subst hji
      have e1 := getD_at ha
      have e2 := getD_at hb
      rw [List.getD_eq_getElem?_getD] at e1 e2
      exact e1.trans e2.symm
    · have := hall j (by omega)
      rw [List.getD_eq_getElem?_getD, List.getD_eq_getElem?_getD] at this
      exact this
  · have hu : ¬ un a = un b := fun e => hab (by rw [← wof_un a, e, wof_un])
    have hne : X ≠ Y := fun e => hab (by rw [e, hb] at ha; exact (Option.some.inj ha).symm)
    simp -implicitDefEqProofs [hu, c16_k0, hne]
theorem errV_bv (c : Int) (s : St) : V.byVal s (errV c) = some (errV c) := by
  unfold errV
  split <;> rfl
theorem s_Is (c k : Int) : Dn.Call Γ cx .val 17 [errV c, I k] St.empty fun v _ => v = B (decide (c = k)) := by
  refine Dn.Call.body (fc := c17) rfl ?_
  simp -implicitDefEqProofs [c17, c17_k0]
  refine use_fn (ds := [errV c]) (by simp only [byVals, errV_bv]) (s_Num c) (Bool.or_true _) ?_
  simp -implicitDefEqProofs
def InvNone (x : D) (L : List W32) (m : Nat) (e : Env) (s : St) : Prop := ∃ i : Nat, e = [(5, .d x), (6, I L.length), (7, I i)] ∧ m = L.length - i ∧ i ≤ L.length ∧ s = St.empty ∧ (0 : W32) ∉ L.take i
theorem s_none {x : D} {L : List W32} (hx : PL x L) (hl : L.length ≤ 100000) : Dn.Call Γ cx .val 10 [.d x] St.empty fun v _ => v = B (decide ((0 : W32) ∈ L)) := by
  refine Dn.Call.body (fc := c10) rfl ?_
  have hlx : ∀ σ, lenT σ .slice (.d x) = some L.length := fun σ => by rw [hx.len, pR_len]
  simp -implicitDefEqProofs [c10, c10_k7, hlx, c10_k6]
  refine wloopI (InvNone x L) (m := L.length) ⟨0, rfl, rfl, by omega, rfl, by simp⟩ ?_
  rintro m e s ⟨i, rfl, rfl, hi, rfl, hz⟩
  rcases hin : decide ((i : Int) < L.length) with _ | _
  · have hlt : ¬ (i : Int) < L.length := of_decide_eq_false hin
    obtain rfl : i = L.length := by omega
    rw [List.take_length] at hz
    simp -implicitDefEqProofs [hlt, c10_l5, c10_k4]
    exact hz
  have hlt : (i : Int) < L.length := of_decide_eq_true hin
  obtain ⟨a, ha⟩ : ∃ a, L[i]? = some a := ⟨_, List.getElem?_eq_getElem (by omega)⟩
  have hia := fun σ => hx.iaddr σ (k := .i64) (sz := 1) (i := i) (pR_at ha) rfl
  have w9 : IntKind.i64.wrap ((i : Int) + 1) = ((i + 1 : Nat) : Int) := by rw [wrap_i64 (by omega) (by omega)]; omega
  by_cases h0 : a = 0
  · have hu : un a = 0 := (un_zero_iff a).2 h0
    have hm : (0 : W32) ∈ L := by rw [← h0]; exact List.mem_of_getElem? ha
    have hm' : (0#32 : W32) ∈ L := hm
    simp -implicitDefEqProofs [hlt, c10_l5, c10_k4, c10_k3, c10_k2, hia, c10_k1, hu, c10_k0, hm']
  · have hu : ¬ un a = 0 := fun e => h0 ((un_zero_iff a).1 e)
    simp -implicitDefEqProofs [hlt, c10_l5, c10_k4, c10_k3, c10_k2, hia, c10_k1, hu, c10_k0, w9]
    refine ⟨L.length - (i + 1), by omega, i + 1, rfl, rfl, by omega, rfl, ?_⟩
    rw [List.take_add_one, ha]
    simp only [Option.toList_some, List.mem_append, List.mem_singleton, not_or]
    exact ⟨hz, fun e => h0 e.symm⟩

/-! ### bytes of a sketch as it is read -/
def bL (L : List W32) : List UInt8 := skB (fun i => L.getD i 0) L.length
theorem pR_w (L : List W32) : pR L = wRows (fun i => L.getD i 0) L.length := by
  apply List.ext_getElem?
  intro i
  by_cases h : i < L.length
  · rw [wRows_at _ h, pR_at (w := L.getD i 0) (by rw [List.getD_eq_getElem?_getD, List.getElem?_eq_getElem h]; rfl)]
  · rw [List.getElem?_eq_none (by rw [pR_len]; omega), List.getElem?_eq_none (by rw [wRows_len]; omega)]
def InvSbR (σ : St) (v0 : V) (L : List W32) (m : Nat) (e : Env) (s : St) : Prop := ∃ (i : Nat) (v : V), e = [(3, v), (7, v0), (8, I L.length), (9, I i)] ∧ m = L.length - i ∧ i ≤ L.length ∧ Two σ s 1 1 v (.d .nils) (byteRows (skB (fun i => L.getD i 0) i)) []
def InvSb2R (σ : St) (v0 : V) (L : List W32) (i : Nat) (m : Nat) (e : Env) (s : St) : Prop := ∃ (k : Nat) (v : V), e = [(3, v), (5, Xw (L.getD i 0)), (7, v0), (8, I L.length), (9, I i), (13, I k)] ∧ m = 4 - k ∧ k ≤ 4 ∧ Two σ s 1 1 v (.d .nils) (byteRows (skB (fun i => L.getD i 0) i ++ (le4 (L.getD i 0)).take k)) []
theorem s_bytesR {σ : St} {v0 : V} {L : List W32} (h : Rd σ v0 L) (hn : L.length ≤ 1000) : Dn.Call Γ cx .rd 41 [v0] σ fun v _ => ∃ d, v = .d d ∧ LV (.d d) (byteRows (bL L)) := by
  refine Dn.Call.body (fc := c41) rfl ?_
  have hlv := fun σ => h.len σ
  simp -implicitDefEqProofs [c41, c41_k13, c41_k12, hlv, c41_k11]
  refine wloopI (InvSbR σ v0 L) (m := L.length) ⟨0, _, rfl, rfl, by omega, Two.nil σ 1 1⟩ ?_
  rintro m e s ⟨i, v, rfl, rfl, hi, hT⟩
  have hrd : Rd s v0 L := h.fr hT.fr
  rcases hin : decide ((i : Int) < L.length) with _ | _
  · have hlt : ¬ (i : Int) < L.length := of_decide_eq_false hin
    obtain rfl : i = L.length := by omega
    have hdv := hT.pa.lv.dv s
    obtain ⟨d, hd⟩ := hdv.2.2.1
    simp -implicitDefEqProofs [hlt, c41_l10, c41_k9, c41_k0, hT.pa.lv.byValN, hdv.1]
    exact ⟨hT.keeps, d, hd, hd ▸ hdv.2.1⟩
  have hlt : (i : Int) < L.length := of_decide_eq_true hin
  obtain ⟨w, hw⟩ : ∃ w, L[i]? = some w := ⟨_, List.getElem?_eq_getElem (by omega)⟩
  obtain ⟨ad, ha1, ha2⟩ := hrd.at hw
  have hgw : L.getD i 0 = w := getD_at hw
  have w9 : IntKind.i64.wrap ((i : Int) + 1) = ((i + 1 : Nat) : Int) := by rw [wrap_i64 (by omega) (by omega)]; omega
  simp -implicitDefEqProofs [-loadAt, hlt, c41_l10, c41_k9, c41_k8, ha1, ha2, c41_k7, c41_k6]
  refine wloopI (InvSb2R σ v0 L i) (m := 4) ⟨0, v, by rw [hgw]; rfl, rfl, by omega, by simpa using hT⟩ ?_
  rintro m e s2 ⟨k, v2, rfl, rfl, hk, hT2⟩
  rw [hgw] at hT2 ⊢
  by_cases hk4 : k < 4
  rotate_left
  · obtain rfl : k = 4 := by omega
    simp -implicitDefEqProofs [c41_l5, c41_k4, w9]
    refine ⟨L.length - (i + 1), by omega, i + 1, v2, rfl, rfl, by omega, ?_⟩
    have : skB (fun i => L.getD i 0) (i + 1) = skB (fun i => L.getD i 0) i ++ (le4 w).take 4 := by
      simp only [skB, hgw]
      rfl
    rw [this]
    exact hT2
  have hkk : (k : Int) < 4 := by omega
  have h8 : IntKind.i64.wrap (8 * (k : Int)) = ((8 * k : Nat) : Int) := by rw [wrap_i64 (by omega) (by omega)]; omega
  have hsr := shr_32 w (8 * k) (by omega)
  have hc8 : IntKind.u8.wrap (un (w >>> (8 * k))) = ((bt w k).toNat : Int) := by
    have := wrap_u8n (w >>> (8 * k)).toNat
    simp only [un] at this ⊢
    rw [this]
    simp [bt]
  have hle : (le4 w).take (k + 1) = (le4 w).take k ++ [bt w k] := by
    match k, hk4 with
    | 0, _ | 1, _ | 2, _ | 3, _ => rfl
  have hln := skB_len (fun i => L.getD i 0) i
  have hlt4 : (byteRows (skB (fun i => L.getD i 0) i ++ (le4 w).take k)).length ≤ 4 * i + 4 := by
    rw [byteRows_len, List.length_append, List.length_take, hln]
    omega
  obtain ⟨v3, s3, hap, hT3, ho3⟩ := hT2.push (bytes := 1) (by decide) (byteRows_fit _) (y := [.int .u8 (bt w k).toNat]) rfl (by have := hlt4; omega) (by have := hlt4; omega)
  rw [show byteRows (skB (fun i => L.getD i 0) i ++ (le4 w).take k) ++ [[.int .u8 (bt w k).toNat]] = byteRows (skB (fun i => L.getD i 0) i ++ (le4 w).take (k + 1)) by rw [hle, ← List.append_assoc, byteRows_app _ [bt w k]]; rfl] at hT3
  obtain ⟨k8, hk8⟩ : ∃ k8, 8 * k = k8 := ⟨_, rfl⟩
  rw [hk8] at h8 hsr hc8
  clear hk4
  simp -implicitDefEqProofs [hkk, c41_l5, c41_k4, c41_k3, c41_k2, c41_k1, h8, hsr, hc8, repl, rowsOf, frzV]
  refine i_app_f (v := v3) (s := s3) ?_ ?_
  · simp -implicitDefEqProofs [V.rows]
    exact hap none
  simp -implicitDefEqProofs [wrap_i64 (n := (k : Int) + 1) (by omega) (by omega)]
  exact ⟨4 - (k + 1), by omega, k + 1, v3, by rw [hgw]; rfl, rfl, by omega, by rw [hgw]; exact hT3⟩
theorem s_bytesOfR {σ : St} {y : Nat} {v : V} {L : List W32} (h : SkR σ y v L) (hn : L.length ≤ 1000) : Dn.Call Γ cx .rd 18 [.ref y 0] σ fun v _ => ∃ d, v = .d d ∧ LV (.d d) (byteRows (bL L)) := by
  refine Dn.Call.body (fc := c18) rfl ?_
  simp -implicitDefEqProofs [c18, c18_k2, eqV, V.isNil, Opd.isC, c18_k1, c18_k0, nilCheckV, h.o]
  refine use_rd' (s_bytesR h.r hn) fun v s ⟨d, hv, hd⟩ => ?_
  subst hv
  simp -implicitDefEqProofs
  exact ⟨⟨fun i hi => rfl, fun t k ht => ht⟩, hd⟩
theorem s_rBytesL {x : D} {L : List W32} (hn : L.length ≤ 1000) (hx : PL x L) : Dn.Call Γ cx .val 20 [.d x] St.empty fun v _ => ∃ d, v = .d d ∧ LV (.d d) (byteRows (bL L)) :=
  s_rBytes hn (by rw [← pR_w]; exact hx)
theorem conv_bytes {σ : St} {d : D} {l : List UInt8} (h : LV (.d d) (byteRows l)) : evalConv σ .bytesStr (.d d) = some (.d (.str l)) := by
  simp only [evalConv, h.rows σ, rowBytes_byteRows]

/-! ### alive -/
theorem Valid.sorted_unique {L T T' : List W32} (h : Valid L T) (h' : Valid L T') (s : T.Pairwise fun a b => un a ≤ un b) (s' : T'.Pairwise fun a b => un a ≤ un b) : T = T' :=
  List.Perm.eq_of_pairwise (le := fun a b => un a ≤ un b) (fun a b _ _ h1 h2 => by rw [← wof_un a, ← wof_un b, show un a = un b by omega]) s s' (h.unique h')
theorem alive_valid : Valid (fnL 2 (osum [1#32, 2#32])) [1#32, 2#32] := ⟨by decide, by decide, by rw [fnL_len]; simp, fun k hk => by
  rw [fnL_len] at hk
  rw [fnL_co _ hk]⟩
theorem alive_bytes : bL (fnL 2 (osum [1#32, 2#32])) = [3, 0, 0, 0, 9, 0, 0, 0] := by decide +kernel
theorem s_alive : Dn.Call Γ cx .val 9 [] St.empty fun v _ => v = B true := by
  refine Dn.Call.body (fc := c9) rfl ?_
  have hids : [1#32, 2#32].map un = [1, 2] := rfl
  have hur : uRows [1, 2] = [[.int .u32 1], [.int .u32 2]] := rfl
  simp -implicitDefEqProofs [c9, c9_k4, isObj, repl, rowsOf, frzV]
  refine use_raw (s_skNew (n := 2) (ids := [1, 2]) (by omega) (by omega) (v := .fl [[.int .u32 1], [.int .u32 2]]) (.fl _) (by simp) (by simp) (by simp)) fun w s ⟨hw, hSk, hf, ht⟩ => ?_
  subst hw
  rw [← hids, acc_osum] at hSk
  have hR := hSk.toR (by omega)
  simp at hR
  simp -implicitDefEqProofs [c9_k3, eqV, V.isNil, Opd.isC, c9_k2, c9_k1]
  refine use_raw (s_Decode hR (by rw [fnL_len]; omega) (by rw [fnL_len]; omega)) fun w s2 ⟨hd, hf2, ht2⟩ => ?_
  have hR2 := hR.fr hf2
  rcases hd with ⟨-, h1⟩ | ⟨d, T, rfl, h1, h2, h3⟩
  · exact absurd alive_valid (h1 _)
  have hT := h2.sorted_unique alive_valid h3 (by decide)
  subst hT
  have hw := s_WordsW (X := [1#32, 2#32]) (Y := [1#32, 2#32]) (y := .list [[.int .u32 1], [.int .u32 2]]) h1 (.list _) (by simp) (by simp)
  simp at hw
  simp -implicitDefEqProofs [c9_k0, eqV, V.isNil, Opd.isC, isObj, repl, rowsOf, frzV]
  refine use_fn (ds := [.d d, .d (.list [[.int .u32 1], [.int .u32 2]])]) rfl hw rfl ?_
  simp -implicitDefEqProofs
  refine use_rd' (s_bytesOfR hR2 (by rw [fnL_len]; omega)) fun w s3 ⟨x, hw, hx⟩ => ?_
  subst hw
  rw [alive_bytes] at hx
  have hcv := fun σ => conv_bytes (σ := σ) hx
  simp -implicitDefEqProofs [-evalConv, hcv, strBin]

/-! ### sorted -/
theorem lsum_app (f : W32 → W32) : ∀ A B : List W32, lsum (A ++ B) f = lsum A f ^^^ lsum B f
  | [], B => (Gf.zx _).symm
  | a :: A, B => by simp only [List.cons_append, lsum]; rw [lsum_app f A B, BitVec.xor_assoc]
end Go.Proofs.Ytmlkdfjojoophaa.T

namespace Go.Proofs.Ytmlkdfjojoophaa.T
open Go.Dn
set_option linter.unusedSimpArgs false
set_option linter.unusedVariables false

/-! ### lists of bytes -/
theorem lv_list {d : D} {rows : List (List D)} (h : LV (.d d) rows) (hne : rows ≠ []) : d = .list rows := by
  cases h with
  | nil => exact absurd rfl hne
  | list => rfl
theorem skB_ne (f : Nat → W32) {n : Nat} (h : 1 ≤ n) : byteRows (skB f n) ≠ [] := by
  intro e
  have := congrArg List.length e
  rw [byteRows_len, skB_len] at this
  simp at this
  omega

/-! ### arguments; New, whatever is asked -/
abbrev wordsK : Lk := .list [.int .u32]
theorem words_fit {d : D} (h : wordsK.fits d) : ∃ L : List W32, PL d L := by
  simp only [Lk.fits] at h
  rcases h with rfl | ⟨rows, rfl, -, hr⟩
  · exact ⟨[], .nil⟩
  · have : ∀ rows : List (List D), (∀ row ∈ rows, Lks [.int .u32] row) → ∃ L : List W32, rows = pR L := by
      intro rows
      induction rows with
      | nil => exact fun _ => ⟨[], rfl⟩
      | cons r rows ih =>
        intro h
        obtain ⟨L, rfl⟩ := ih fun row hr => h row (by simp [hr])
        have h0 := h r (by simp)
        simp only [Lks, Lk.fits] at h0
        obtain ⟨d, _, rfl, ⟨n, rfl, h1, h2⟩, rfl⟩ := h0
        have e1 : IntKind.u32.min = 0 := rfl
        have e2 : IntKind.u32.max = 4294967295 := rfl
        refine ⟨wof n :: L, ?_⟩
        simp only [pR, List.map_cons]
        rw [un_wof (by omega) (by omega)]
    obtain ⟨L, rfl⟩ := this rows hr
    exact ⟨L, .list _⟩
def badN (n : Int) (L : List W32) : Prop := n < 1 ∨ 40 < n ∨ (0 : W32) ∈ L
def newQ (σ : St) (n : Int) (L : List W32) : Post := fun w s => (badN n L ∧ w = .tup [.d .nilp, errV 1] ∨ ¬ badN n L ∧ ∃ y r, w = .tup [.ref y 0, .d .nili] ∧ Sk s y r n.toNat (osum L) ∧ y ≠ r) ∧ Fr [] σ s ∧ s.toks = σ.toks
theorem s_newW {σ : St} {n : Int} {v : V} {L : List W32} (hv : LV v (pR L)) (hl : L.length ≤ 1000) : Dn.Call Γ cx .raw 11 [I n, v] σ (newQ σ n L) := by
  by_cases hn : n < 1 ∨ 40 < n
  · refine Dn.Call.mono (fun w s ⟨hw, hs⟩ => ?_) (s_skBad hn (v := v) hv.cells)
    subst hs
    exact ⟨.inl ⟨by unfold badN; omega, hw⟩, Fr.refl _ _, rfl⟩
  obtain ⟨k, rfl⟩ : ∃ k : Nat, n = (k : Int) := ⟨n.toNat, by omega⟩
  have hvI : LV v (uRows (L.map un)) := by rw [uRows_map]; exact hv
  by_cases hz : (0 : W32) ∈ L
  · exact Dn.Call.mono (fun w s ⟨hw, hf, ht⟩ => ⟨.inl ⟨.inr (.inr hz), hw⟩, hf, ht⟩) (s_skNewZ (by omega) (by omega) hvI ((un_zero_mem L).2 hz) (by simpa using hl))
  · refine Dn.Call.mono (fun w s ⟨hw, hS, hf, ht⟩ => ⟨.inr ⟨?_, _, _, hw, ?_, Nat.succ_ne_self _⟩, hf, ht⟩) (s_skNew (by omega) (by omega) hvI (un_bound L) (fun e => hz ((un_zero_mem L).1 e)) (by simpa using hl))
    · unfold badN
      rintro (h | h | h)
      · omega
      · omega
      · exact hz h
    · rw [acc_osum] at hS
      exact hS

/-! lists put together, by appends onto an empty one -/
theorem app2 {s : St} {dA dB : D} {A B : List W32} (hA : PL dA A) (hB : PL dB B) (lA : A.length ≤ 1000) (lB : B.length ≤ 1000) :
    ∃ v1 s1 v2 s2, (∀ tg, appendV s tg 1 4 (.fl []) (pR A) = some (v1, s1)) ∧ (∀ tg, appendV s1 tg 1 4 v1 (pR B) = some (v2, s2)) ∧ s1.objs = s.objs ∧ s2.objs = s.objs ∧ LV v2 (pR (A ++ B)) ∧ App s2 1 v2 (pR (A ++ B)) := by
  obtain ⟨v1, s1, h1, a1, o1, -, -⟩ := (App.fl [] : App s 1 (.fl []) []).push (bytes := 4) (by decide) (by simp) (pR_fit A) (by simp [pR_len]; omega) (by simp [pR_len]; omega)
  rw [List.nil_append] at a1
  obtain ⟨v2, s2, h2, a2, o2, -, -⟩ := a1.push (bytes := 4) (by decide) (pR_fit A) (pR_fit B) (by simp [pR_len]; omega) (by simp [pR_len]; omega)
  rw [← pR_app] at a2
  exact ⟨v1, s1, v2, s2, h1, h2, o1, o2.trans o1, a2.lv, a2⟩
end Go.Proofs.Ytmlkdfjojoophaa.T

namespace Go.Proofs.Ytmlkdfjojoophaa.T
open Go.Dn
attribute [local simp] body_eq globEnv GB List.map_nil List.map_cons List.append_nil w_rangeF i_next i_makeMap i_range i_update i_delete i_entry i_clone entryV cloneV q_rndA q_rndB_n q_rndB_e q_rndB_r setAll w_skip w_ops w_seq w_cond w_block w_exit w_ret q_then_n q_then_e q_then_r q_blk_n q_blk_e q_blk_r q_ops q_cont q_end_n q_end_r q_end_e q_loop_n q_loop_e q_loop_r i_nil i_p i_alloc i_box i_store i_copy i_clear i_call i_callv i_when t_nil t_p t_call t_alloc t_box t_store kept_nil t_copy t_clear q_tcont gsel List.cons_append List.nil_append evalP evalE evalF evalB isObj thaw Opd.ev Env.get Env.set Env.pick putE initEnv evalBin intBin evalUn evalConv goneAll goneOne retV resAll Res.ev tupOf byVals byValsN bv_d bv_da bv_fl bv_tl bn_d bn_da bn_fl bn_tl cx Dn.newObj St.place St.push St.spot St.empty cell_d cell_da cell_agg cell_ref cell_sl cell_fl cell_tl cell_map cell_fn cell_ifc loadAt faddrV partOf extractV mkAgg ofD splice St.setObj fillV
set_option linter.unusedSimpArgs false
set_option linter.unusedVariables false

/-! ### Empty -/
theorem s_nonzero (w : W32) : Dn.Call Γ cx .val 50 [Xw w] St.empty fun v _ => v = B (decide (w ≠ 0)) := by
  refine Dn.Call.body (fc := c50) rfl ?_
  by_cases h0 : w = 0
  · subst h0
    have hu : un (0#32) = 0 := rfl
    simp -implicitDefEqProofs [c50, c50_k0, hu]
  · have hu : ¬ un w = 0 := fun e => h0 ((un_zero_iff w).1 e)
    have h0' : ¬ w = 0#32 := h0
    simp -implicitDefEqProofs [c50, c50_k0, hu, h0']
abbrev fE : V := .fn (.func 50) [] []
def InvIx (σ : St) (v : V) (L : List W32) (m : Nat) (e : Env) (s : St) : Prop := ∃ i : Nat, e = [(0, v), (1, fE), (7, I L.length), (8, I i)] ∧ m = L.length - i ∧ i ≤ L.length ∧ s = σ ∧ ∀ x ∈ L.take i, x = 0
theorem s_IndexF {σ : St} {v : V} {L : List W32} (h : Rd σ v L) (hl : L.length ≤ 100000) : Dn.Call Γ cx .rd 69 [v, fE] σ fun w _ => (w = I (-1) ∧ ∀ x ∈ L, x = 0) ∨ ∃ i : Nat, w = I i ∧ ¬ ∀ x ∈ L, x = 0 := by
  refine Dn.Call.body (fc := c69) rfl ?_
  have hlv := fun σ => h.len σ
  simp -implicitDefEqProofs [c69, c69_k7, hlv, c69_k6]
  refine wloopI (InvIx σ v L) (m := L.length) ⟨0, rfl, rfl, by omega, rfl, by simp⟩ ?_
  rintro m e s ⟨i, rfl, rfl, hi, rfl, hz⟩
  rcases hin : decide ((i : Int) < L.length) with _ | _
  · have hlt : ¬ (i : Int) < L.length := of_decide_eq_false hin
    obtain rfl : i = L.length := by omega
    rw [List.take_length] at hz
    simp -implicitDefEqProofs [hlt, c69_l5, c69_k4]
    exact ⟨⟨fun i hi => rfl, fun t k ht => ht⟩, hz⟩
  have hlt : (i : Int) < L.length := of_decide_eq_true hin
  obtain ⟨w, hw⟩ : ∃ w, L[i]? = some w := ⟨_, List.getElem?_eq_getElem (by omega)⟩
  obtain ⟨ad, ha1, ha2⟩ := h.at hw
  have w9 : IntKind.i64.wrap ((i : Int) + 1) = ((i + 1 : Nat) : Int) := by rw [wrap_i64 (by omega) (by omega)]; omega
  simp -implicitDefEqProofs [-loadAt, hlt, c69_l5, c69_k4, c69_k3, c69_k2, c69_k1, ha1, ha2]
  refine use_fn (ds := [Xw w]) rfl (s_nonzero w) rfl ?_
  by_cases h0 : w = 0
  · have h0' : w = 0#32 := h0
    simp -implicitDefEqProofs [h0', c69_k0, w9]
    refine ⟨L.length - (i + 1), by omega, i + 1, rfl, rfl, by omega, rfl, ?_⟩
    rw [List.take_add_one, hw]
    intro x hx
    rcases List.mem_append.1 hx with hx | hx
    · exact hz x hx
    · simp at hx
      rw [hx]; exact h0
  · have h0' : ¬ w = 0#32 := h0
    simp -implicitDefEqProofs [h0', c69_k0]
    exact ⟨⟨fun i hi => rfl, fun t k ht => ht⟩, ⟨i, rfl⟩, w, List.mem_of_getElem? hw, h0⟩
theorem s_ContainsF {σ : St} {v : V} {L : List W32} (h : Rd σ v L) (hl : L.length ≤ 100000) : Dn.Call Γ cx .rd 49 [v, fE] σ fun w _ => w = B (decide (¬ ∀ x ∈ L, x = 0)) := by
  refine Dn.Call.body (fc := c49) rfl ?_
  simp -implicitDefEqProofs [c49, c49_k0]
  refine use_rd' (s_IndexF h hl) fun w s hw => ?_
  rcases hw with ⟨rfl, hz⟩ | ⟨i, rfl, hz⟩
  · have : decide (∃ x, x ∈ L ∧ ¬ x = 0) = false := decide_eq_false fun ⟨x, h1, h2⟩ => h2 (hz x h1)
    simp -implicitDefEqProofs [hz]
    exact ⟨⟨fun i hi => rfl, fun t k ht => ht⟩, hz⟩
  · have h0 : (0 : Int) ≤ i := by omega
    simp -implicitDefEqProofs [hz, h0]
    exact ⟨⟨fun i hi => rfl, fun t k ht => ht⟩, by simpa using hz⟩
theorem s_Empty {σ : St} {y : Nat} {v : V} {L : List W32} (h : SkR σ y v L) (hl : L.length ≤ 100000) : Dn.Call Γ cx .rd 23 [.ref y 0] σ fun w _ => w = B (decide (∀ x ∈ L, x = 0)) := by
  refine Dn.Call.body (fc := c23) rfl ?_
  simp -implicitDefEqProofs [c23, c23_k0, eqV, V.isNil, Opd.isC, nilCheckV, h.o]
  refine use_rd (s_ContainsF h.r hl) ?_
  simp -implicitDefEqProofs
  refine ⟨⟨fun i hi => rfl, fun t k ht => ht⟩, ?_⟩
  by_cases hz : ∀ x, x ∈ L → x = 0#32
  · rw [decide_eq_true hz, Bool.not_true, decide_eq_false_iff_not]
    exact fun ⟨x, h1, h2⟩ => h2 (hz x h1)
  · rw [decide_eq_false hz, Bool.not_false, decide_eq_true_eq]
    exact Classical.byContradiction fun h => hz fun x hx => Classical.byContradiction fun h2 => h ⟨x, hx, h2⟩

/-! ### Copy -/
theorem s_Copy {σ : St} {y n : Nat} {v : V} {f : Nat → W32} (h : SkR σ y v (fnL n f)) (h1 : 1 ≤ n) (hl : n ≤ 1000) : Dn.Call Γ cx .raw 27 [.ref y 0] σ fun w s => ∃ x r, w = .ref x 0 ∧ Sk s x r n f ∧ x ≠ r ∧ σ.objs.length ≤ x ∧ σ.objs.length ≤ r ∧ Fr [] σ s ∧ s.toks = σ.toks := by
  refine Dn.Call.body (fc := c27) rfl ?_
  have hlen : (fnL n f).length = n := fnL_len n f
  have hne : fnL n f ≠ [] := fun e => by rw [e] at hlen; simp at hlen; omega
  simp -implicitDefEqProofs [c27, c27_k2, eqV, V.isNil, Opd.isC, c27_k1, c27_k0, nilCheckV, h.o]
  refine use_raw (s_Clone h.r (by omega)) fun w s hN => ?_
  obtain ⟨r, rfl⟩ := hN.is_sl hne
  rw [hlen] at hN ⊢
  have hob := hN.obj.1
  have hrl := (List.getElem?_eq_some_iff.1 hob).1
  have hnw := hN.nw _ _ _ _ rfl
  have hfl := hN.fr.len
  rw [fnL_wV] at hob
  simp -implicitDefEqProofs
  refine ⟨r, ⟨by simp, ?_⟩, by omega, by omega, hnw, hN.fr.trans (Fr.push1 _ _), hN.tk⟩
  simp only
  rw [List.getElem?_append_left hrl]
  exact hob

/-! ### no sketch -/
theorem n_Put {σ : St} {v : V} (hv : v.cells = some [v]) : Dn.Call Γ cx .raw 28 [.d .nilp, v] σ fun w s => w = errV 1 ∧ s = σ := by
  refine Dn.Call.body (fc := c28) rfl ?_
  simp -implicitDefEqProofs [c28, c28_k7, eqV, V.isNil, Opd.isC, c28_k6, mkifV, errV]
theorem n_Decode {σ : St} : Dn.Call Γ cx .raw 15 [.d .nilp] σ fun w s => w = .tup [.d .nils, errV 13] ∧ s = σ := by
  refine Dn.Call.body (fc := c15) rfl ?_
  simp -implicitDefEqProofs [c15, c15_k12, eqV, V.isNil, Opd.isC, c15_k11, mkifV, errV]
theorem n_Further {σ : St} (n : Int) : Dn.Call Γ cx .raw 25 [.d .nilp, I n] σ fun w s => w = .tup [.d .nils, errV 1] ∧ s = σ := by
  refine Dn.Call.body (fc := c25) rfl ?_
  simp -implicitDefEqProofs [c25, c25_k2, eqV, V.isNil, Opd.isC, c25_k1, mkifV, errV]
theorem n_Join {σ : St} : Dn.Call Γ cx .raw 26 [.d .nilp, .d .nils] σ fun w s => w = .tup [.d .nilp, errV 1] ∧ s = σ := by
  refine Dn.Call.body (fc := c26) rfl ?_
  simp -implicitDefEqProofs [c26, c26_k8, eqV, V.isNil, Opd.isC, c26_k7, mkifV, errV]
theorem n_With1 {σ : St} {y : Nat} : Dn.Call Γ cx .raw 12 [.d .nilp, .ref y 0] σ fun w s => w = .tup [.d .nilp, errV 1] ∧ s = σ := by
  refine Dn.Call.body (fc := c12) rfl ?_
  simp -implicitDefEqProofs [c12, c12_k10, eqV, V.isNil, Opd.isC, c12_k9, mkifV, errV]
theorem n_With2 {σ : St} {y : Nat} : Dn.Call Γ cx .raw 12 [.ref y 0, .d .nilp] σ fun w s => w = .tup [.d .nilp, errV 1] ∧ s = σ := by
  refine Dn.Call.body (fc := c12) rfl ?_
  simp -implicitDefEqProofs [c12, c12_k10, eqV, V.isNil, Opd.isC, c12_k9, mkifV, errV]
theorem n_Capacity {σ : St} : Dn.Call Γ cx .raw 13 [.d .nilp] σ fun w s => w = I 0 ∧ s = σ := by
  refine Dn.Call.body (fc := c13) rfl ?_
  simp -implicitDefEqProofs [c13, c13_k2, eqV, V.isNil, Opd.isC, c13_k1]
theorem n_Bytes {σ : St} : Dn.Call Γ cx .raw 18 [.d .nilp] σ fun w s => w = .d .nils ∧ s = σ := by
  refine Dn.Call.body (fc := c18) rfl ?_
  simp -implicitDefEqProofs [c18, c18_k2, eqV, V.isNil, Opd.isC, c18_k1]
theorem n_Empty {σ : St} : Dn.Call Γ cx .raw 23 [.d .nilp] σ fun w s => w = B true ∧ s = σ := by
  refine Dn.Call.body (fc := c23) rfl ?_
  simp -implicitDefEqProofs [c23, c23_k0, eqV, V.isNil, Opd.isC]
theorem n_Copy {σ : St} : Dn.Call Γ cx .raw 27 [.d .nilp] σ fun w s => w = .d .nilp ∧ s = σ := by
  refine Dn.Call.body (fc := c27) rfl ?_
  simp -implicitDefEqProofs [c27, c27_k2, eqV, V.isNil, Opd.isC, c27_k1]

/-! ### the law SketchPuts -/
abbrev puQ : PostC := endQ .val St.empty [.tmp 6] fun v _ => v = B true
theorem acc_app (A C : List W32) : acc (osum A) (C.map un) = osum (A ++ C) := by
  funext k
  rw [acc_map]
  unfold osum
  rw [lsum_app]
theorem osum_twice (A : List W32) (k : Nat) : osum (A ++ A) k = 0 := by
  unfold osum
  rw [lsum_app, Gf.xs]
theorem law7_k0 {s : St} {w : V} : wcode (Dn.Call Γ cx) cx c7_k0 [(11, .d .nilp), (13, errV 13), (15, errV 1), (17, errV 1), (19, errV 1), (21, errV 1)] s puQ := by
  simp -implicitDefEqProofs [c7_k0, isObj, repl, rowsOf, frzV]
  refine use_raw (n_Put rfl) fun w s2 ⟨hw, hs⟩ => ?_
  subst hw hs
  simp -implicitDefEqProofs
  refine use_fn (ds := [errV 1, I 1]) rfl (s_Is 1 1) rfl ?_
  simp -implicitDefEqProofs
  refine use_fn (ds := [errV 13, I 13]) rfl (s_Is 13 13) rfl ?_
  simp -implicitDefEqProofs
  refine use_fn (ds := [errV 1, I 1]) rfl (s_Is 1 1) rfl ?_
  simp -implicitDefEqProofs
  refine use_fn (ds := [errV 1, I 1]) rfl (s_Is 1 1) rfl ?_
  simp -implicitDefEqProofs
  refine use_fn (ds := [errV 1, I 1]) rfl (s_Is 1 1) rfl ?_
  simp -implicitDefEqProofs
  refine use_fn (ds := [errV 1, I 1]) rfl (s_Is 1 1) rfl ?_
  simp -implicitDefEqProofs
  refine use_raw n_Capacity fun w s2 ⟨hw, hs⟩ => ?_
  subst hw hs
  simp -implicitDefEqProofs
  refine use_raw n_Bytes fun w s2 ⟨hw, hs⟩ => ?_
  subst hw hs
  simp -implicitDefEqProofs [lenT, Dn.lenV]
  refine use_raw n_Empty fun w s2 ⟨hw, hs⟩ => ?_
  subst hw hs
  simp -implicitDefEqProofs
  refine use_raw n_Copy fun w s2 ⟨hw, hs⟩ => ?_
  subst hw hs
  simp -implicitDefEqProofs [eqV, V.isNil, Opd.isC]
theorem law7_k6 {s : St} {y : Nat} : wcode (Dn.Call Γ cx) cx c7_k6 [(7, .ref y 0)] s puQ := by
  have e1 : errV 1 = .d (.iface 39 (.int .i64 1)) := rfl
  simp -implicitDefEqProofs [c7_k6, c7_k5]
  refine use_raw n_Decode fun w s2 ⟨hw, hs⟩ => ?_
  subst hw hs
  simp -implicitDefEqProofs [c7_k4]
  refine use_raw (n_Further 0) fun w s2 ⟨hw, hs⟩ => ?_
  subst hw hs
  simp -implicitDefEqProofs [c7_k3]
  refine use_raw n_Join fun w s2 ⟨hw, hs⟩ => ?_
  subst hw hs
  simp -implicitDefEqProofs [c7_k2]
  refine use_raw n_With1 fun w s2 ⟨hw, hs⟩ => ?_
  subst hw hs
  simp -implicitDefEqProofs [c7_k1]
  refine use_raw n_With2 fun w s2 ⟨hw, hs⟩ => ?_
  subst hw hs
  simp -implicitDefEqProofs
  exact law7_k0 (w := .d .nilp)
/-- The told answer's bytes. -/
theorem s_OfW {n : Nat} (hn : n ≤ 1000) {d : D} {A : List W32} (hd : PL d A) (hl : A.length ≤ 1000) : Dn.Call Γ cx .val 24 [I n, .d d] St.empty (isPL (fnL n (osum A))) := by
  have h : LV (.d d) (uRows (A.map un)) := by rw [uRows_map]; exact hd
  refine Dn.Call.mono (fun w s ⟨x, hw, hx⟩ => ⟨x, hw, ?_⟩) (s_Of hn h (un_bound A) (by simpa using hl))
  rw [acc_osum] at hx
  have e : pR (fnL n (osum A)) = wRows (osum A) n := by
    unfold pR fnL wRows
    rw [List.map_map]
    rfl
  unfold PL
  rw [e]
  exact hx
theorem law7_k8a {s : St} {x y rx ry n : Nat} {A M : List W32} {dA : D} {vM : V} (h1 : 1 ≤ n) (h40 : n ≤ 40) (hA : PL dA A) (lA : A.length ≤ 20) (hM : LV vM (pR M)) (lM : M.length ≤ 40) (zM : (0 : W32) ∉ M)
    (hx : Sk s x rx n (osum A)) (hxr : x ≠ rx) (hy : Sk s y ry n (osum M)) (hyr : y ≠ ry) (h3 : x ≠ ry) (h4 : rx ≠ ry) :
    wcode (Dn.Call Γ cx) cx c7_k8 [(0, I n), (1, .d dA), (7, .ref x 0), (9, .ref y 0), (10, vM), (67, B false)] s puQ := by
  simp only [c7_k8, w_seq]
  refine w_drwX (fun f => if f = 18 ∨ f = 23 then .rd else if f = 28 then .raw else .val) [] (by decide +kernel) ?_
  simp only [room_zero]
  have hX := hx.toR (fun e => hxr e.symm)
  have hY := hy.toR (fun e => hyr e.symm)
  have agr : ∀ {s2 : St} {z : Nat} {w : V} {L : List W32}, Agr s.objs.length s s2 → SkR s z w L → SkR s2 z w L := fun ha h => by
    refine ⟨(ha.1 _ (List.getElem?_eq_some_iff.1 h.o).1).trans h.o, h.r.mono fun r off n sz e => ha.1 r ?_, h.n⟩
    have := h.r
    subst e
    cases this with
    | lv h2 => cases h2
    | sl h2 => exact (List.getElem?_eq_some_iff.1 h2).1
  have hb : ∀ {s2 : St} {z : Nat} {w : V} {T : List W32}, SkR s2 z w (fnL n (osum T)) → Dn.Call Γ cx .rd 18 [.ref z 0] s2 fun v _ => v = .d (.list (byteRows (bL (fnL n (osum T))))) := fun h => (s_bytesOfR h (by rw [fnL_len]; omega)).mono fun v s ⟨d, hv, hd⟩ => by
    rw [hv, lv_list hd (skB_ne _ (by rw [fnL_len]; omega))]
  obtain ⟨dM, b2, l2⟩ := hM.byVal s
  have hnb := hM.borrows
  have hcv : ∀ (σ : St) (l : List UInt8), evalConv σ .bytesStr (.d (.list (byteRows l))) = some (.d (.str l)) := fun σ l => conv_bytes (.list _)
  simp -implicitDefEqProofs
  refine use_rdN rfl (fun s2 ha => hb (agr ha hX)) ?_
  simp only [q_tcont, putE, Env.set]
  simp -implicitDefEqProofs [-evalConv, hcv]
  refine use_valN (ds := [I n, .d dA]) rfl rfl (s_OfW (by omega) hA (by omega)) ⟨.d (.list (pR (fnL n (osum A)))), St.empty, _, rfl, .list _⟩ fun w s5 ⟨d5, hw, h5⟩ => ?_
  subst hw
  refine ⟨rfl, fun hb => Bool.noConfusion (show false = true from hb), ?_⟩
  simp only [q_tcont, putE, Env.set]
  simp -implicitDefEqProofs [-evalConv, hcv]
  refine use_valN (ds := [.d d5]) rfl rfl (s_rBytesL (by rw [fnL_len]; omega) h5) ⟨.d (.list (byteRows (bL (fnL n (osum A))))), St.empty, _, rfl, .list _⟩ fun w s6 ⟨d6, hw, h6⟩ => ?_
  subst hw
  have e6 := lv_list h6 (skB_ne _ (by rw [fnL_len]; omega))
  subst e6
  refine ⟨rfl, fun hb => Bool.noConfusion (show false = true from hb), ?_⟩
  simp only [q_tcont, putE, Env.set]
  simp -implicitDefEqProofs [-evalConv, hcv, strBin]
  refine use_rdN rfl (fun s2 ha => hb (agr ha hY)) ?_
  simp only [q_tcont, putE, Env.set]
  simp -implicitDefEqProofs [-evalConv, hcv]
  refine use_valN (ds := [I n, .d dM]) rfl (by simp only [byVals, b2]; rfl) (s_OfW (by omega) l2 (by omega)) ⟨.d (.list (pR (fnL n (osum M)))), St.empty, _, rfl, .list _⟩ fun w s7 ⟨d7, hw, h7⟩ => ?_
  subst hw
  refine ⟨rfl, fun hb => ?_, ?_⟩
  · simp only [List.any_cons, hnb, List.any_nil] at hb
    cases hb
  simp only [q_tcont, putE, Env.set]
  simp -implicitDefEqProofs [-evalConv, hcv]
  refine use_valN (ds := [.d d7]) rfl rfl (s_rBytesL (by rw [fnL_len]; omega) h7) ⟨.d (.list (byteRows (bL (fnL n (osum M))))), St.empty, _, rfl, .list _⟩ fun w s8 ⟨d8, hw, h8⟩ => ?_
  subst hw
  have e8 := lv_list h8 (skB_ne _ (by rw [fnL_len]; omega))
  subst e8
  refine ⟨rfl, fun hb => Bool.noConfusion (show false = true from hb), ?_⟩
  simp only [q_tcont, putE, Env.set]
  simp -implicitDefEqProofs [-evalConv, hcv, strBin]
  have hMI : LV vM (uRows (M.map un)) := by rw [uRows_map]; exact hM
  refine use_rawN rfl (s_skPut hy hyr (by omega) hMI (un_bound M) (fun e => zM ((un_zero_mem M).1 e)) (by simpa using (by omega : M.length ≤ 1000))) ?_ fun w s9 ⟨hw, hS, hf, ht⟩ => ?_
  · refine ⟨.d .nili, ⟨s.objs.set ry (.cells (fnV n (acc (osum M) (M.map un)))), s.toks⟩, rfl, ⟨?_, ?_⟩, ⟨by simp, fun q hq _ => ?_⟩, rfl⟩
    · simp only
      rw [List.getElem?_set_ne (fun e => hyr e.symm)]
      exact hy.o
    · simp only
      rw [List.getElem?_set_self (List.getElem?_eq_some_iff.1 hy.l).1]
    · simp only
      rw [List.getElem?_set_ne (fun e => hq (by simp [e]))]
  refine ⟨fun t ht => absurd ht List.not_mem_nil, ?_⟩
  subst hw
  rw [acc_app] at hS
  have hE := hS.toR (fun e => hyr e.symm)
  have hz : ∀ x ∈ fnL n (osum (M ++ M)), x = 0 := fun x hx => by
    obtain ⟨k, -, rfl⟩ := List.mem_map.1 hx
    exact osum_twice M k
  have hz' : decide (∀ x ∈ fnL n (osum (M ++ M)), x = 0) = true := decide_eq_true hz
  simp only [q_tcont, putE, Env.set]
  simp -implicitDefEqProofs [eqV, V.isNil, Opd.isC]
  refine use_rdN (r := B true) rfl (fun s2 ha => ?_) ?_
  · have := s_Empty (σ := s2) (y := y) (L := fnL n (osum (M ++ M))) (v := .sl ry 0 n 1) ⟨?_, hE.r.mono ?_, hE.n⟩ (by rw [fnL_len]; omega)
    · rw [hz'] at this
      exact this
    · exact (ha.1 _ (List.getElem?_eq_some_iff.1 hy.o).1).trans hE.o
    · intro r off n' sz e
      cases e
      exact ha.1 _ (List.getElem?_eq_some_iff.1 hy.l).1
  simp only [q_tcont, putE, Env.set]
  simp -implicitDefEqProofs [c7_k7]
  exact law7_k6
theorem law7_k8b {s : St} {x y rx ry n : Nat} {A M : List W32} {dA : D} {vM : V} (h1 : 1 ≤ n) (h40 : n ≤ 40) (hA : PL dA A) (lA : A.length ≤ 20) (hM : LV vM (pR M)) (lM : M.length ≤ 40) (zM : (0 : W32) ∉ M)
    (hx : Sk s x rx n (osum A)) (hxr : x ≠ rx) (hy : Sk s y ry n (osum M)) (hyr : y ≠ ry) (h3 : x ≠ ry) (h4 : rx ≠ ry) :
    wcode (Dn.Call Γ cx) cx c7_k8 [(0, I n), (1, .d dA), (7, .ref x 0), (9, .ref y 0), (10, vM), (69, B false)] s puQ := by
  simp only [c7_k8, w_seq]
  refine w_drwX (fun f => if f = 18 ∨ f = 23 then .rd else if f = 28 then .raw else .val) [] (by decide +kernel) ?_
  simp only [room_zero]
  have hX := hx.toR (fun e => hxr e.symm)
  have hY := hy.toR (fun e => hyr e.symm)
  have agr : ∀ {s2 : St} {z : Nat} {w : V} {L : List W32}, Agr s.objs.length s s2 → SkR s z w L → SkR s2 z w L := fun ha h => by
    refine ⟨(ha.1 _ (List.getElem?_eq_some_iff.1 h.o).1).trans h.o, h.r.mono fun r off n sz e => ha.1 r ?_, h.n⟩
    have := h.r
    subst e
    cases this with
    | lv h2 => cases h2
    | sl h2 => exact (List.getElem?_eq_some_iff.1 h2).1
  have hb : ∀ {s2 : St} {z : Nat} {w : V} {T : List W32}, SkR s2 z w (fnL n (osum T)) → Dn.Call Γ cx .rd 18 [.ref z 0] s2 fun v _ => v = .d (.list (byteRows (bL (fnL n (osum T))))) := fun h => (s_bytesOfR h (by rw [fnL_len]; omega)).mono fun v s ⟨d, hv, hd⟩ => by
    rw [hv, lv_list hd (skB_ne _ (by rw [fnL_len]; omega))]
  obtain ⟨dM, b2, l2⟩ := hM.byVal s
  have hnb := hM.borrows
  have hcv : ∀ (σ : St) (l : List UInt8), evalConv σ .bytesStr (.d (.list (byteRows l))) = some (.d (.str l)) := fun σ l => conv_bytes (.list _)
  simp -implicitDefEqProofs
  refine use_rdN rfl (fun s2 ha => hb (agr ha hX)) ?_
  simp only [q_tcont, putE, Env.set]
  simp -implicitDefEqProofs [-evalConv, hcv]
  refine use_valN (ds := [I n, .d dA]) rfl rfl (s_OfW (by omega) hA (by omega)) ⟨.d (.list (pR (fnL n (osum A)))), St.empty, _, rfl, .list _⟩ fun w s5 ⟨d5, hw, h5⟩ => ?_
  subst hw
  refine ⟨rfl, fun hb => Bool.noConfusion (show false = true from hb), ?_⟩
  simp only [q_tcont, putE, Env.set]
  simp -implicitDefEqProofs [-evalConv, hcv]
  refine use_valN (ds := [.d d5]) rfl rfl (s_rBytesL (by rw [fnL_len]; omega) h5) ⟨.d (.list (byteRows (bL (fnL n (osum A))))), St.empty, _, rfl, .list _⟩ fun w s6 ⟨d6, hw, h6⟩ => ?_
  subst hw
  have e6 := lv_list h6 (skB_ne _ (by rw [fnL_len]; omega))
  subst e6
  refine ⟨rfl, fun hb => Bool.noConfusion (show false = true from hb), ?_⟩
  simp only [q_tcont, putE, Env.set]
  simp -implicitDefEqProofs [-evalConv, hcv, strBin]
  refine use_rdN rfl (fun s2 ha => hb (agr ha hY)) ?_
  simp only [q_tcont, putE, Env.set]
  simp -implicitDefEqProofs [-evalConv, hcv]
  refine use_valN (ds := [I n, .d dM]) rfl (by simp only [byVals, b2]; rfl) (s_OfW (by omega) l2 (by omega)) ⟨.d (.list (pR (fnL n (osum M)))), St.empty, _, rfl, .list _⟩ fun w s7 ⟨d7, hw, h7⟩ => ?_
  subst hw
  refine ⟨rfl, fun hb => ?_, ?_⟩
  · simp only [List.any_cons, hnb, List.any_nil] at hb
    cases hb
  simp only [q_tcont, putE, Env.set]
  simp -implicitDefEqProofs [-evalConv, hcv]
  refine use_valN (ds := [.d d7]) rfl rfl (s_rBytesL (by rw [fnL_len]; omega) h7) ⟨.d (.list (byteRows (bL (fnL n (osum M))))), St.empty, _, rfl, .list _⟩ fun w s8 ⟨d8, hw, h8⟩ => ?_
  subst hw
  have e8 := lv_list h8 (skB_ne _ (by rw [fnL_len]; omega))
  subst e8
  refine ⟨rfl, fun hb => Bool.noConfusion (show false = true from hb), ?_⟩
  simp only [q_tcont, putE, Env.set]
  simp -implicitDefEqProofs [-evalConv, hcv, strBin]
  have hMI : LV vM (uRows (M.map un)) := by rw [uRows_map]; exact hM
  refine use_rawN rfl (s_skPut hy hyr (by omega) hMI (un_bound M) (fun e => zM ((un_zero_mem M).1 e)) (by simpa using (by omega : M.length ≤ 1000))) ?_ fun w s9 ⟨hw, hS, hf, ht⟩ => ?_
  · refine ⟨.d .nili, ⟨s.objs.set ry (.cells (fnV n (acc (osum M) (M.map un)))), s.toks⟩, rfl, ⟨?_, ?_⟩, ⟨by simp, fun q hq _ => ?_⟩, rfl⟩
    · simp only
      rw [List.getElem?_set_ne (fun e => hyr e.symm)]
      exact hy.o
    · simp only
      rw [List.getElem?_set_self (List.getElem?_eq_some_iff.1 hy.l).1]
    · simp only
      rw [List.getElem?_set_ne (fun e => hq (by simp [e]))]
  refine ⟨fun t ht => absurd ht List.not_mem_nil, ?_⟩
  subst hw
  rw [acc_app] at hS
  have hE := hS.toR (fun e => hyr e.symm)
  have hz : ∀ x ∈ fnL n (osum (M ++ M)), x = 0 := fun x hx => by
    obtain ⟨k, -, rfl⟩ := List.mem_map.1 hx
    exact osum_twice M k
  have hz' : decide (∀ x ∈ fnL n (osum (M ++ M)), x = 0) = true := decide_eq_true hz
  simp only [q_tcont, putE, Env.set]
  simp -implicitDefEqProofs [eqV, V.isNil, Opd.isC]
  refine use_rdN (r := B true) rfl (fun s2 ha => ?_) ?_
  · have := s_Empty (σ := s2) (y := y) (L := fnL n (osum (M ++ M))) (v := .sl ry 0 n 1) ⟨?_, hE.r.mono ?_, hE.n⟩ (by rw [fnL_len]; omega)
    · rw [hz'] at this
      exact this
    · exact (ha.1 _ (List.getElem?_eq_some_iff.1 hy.o).1).trans hE.o
    · intro r off n' sz e
      cases e
      exact ha.1 _ (List.getElem?_eq_some_iff.1 hy.l).1
  simp only [q_tcont, putE, Env.set]
  simp -implicitDefEqProofs [c7_k7]
  exact law7_k6
theorem law7_k14 {s : St} {x y rx ry n : Nat} {A C : List W32} {dA dC : D} {vM : V} (h1 : 1 ≤ n) (h40 : n ≤ 40) (hA : PL dA A) (lA : A.length ≤ 20) (zA : (0 : W32) ∉ A) (hC : PL dC C) (lC : C.length ≤ 20) (hM : LV vM (pR (A ++ C)))
    (hx : Sk s x rx n (osum A)) (hxr : x ≠ rx) (hyr : y ≠ ry) (h3 : x ≠ ry) (h4 : rx ≠ ry) {ev : V} (hy : ((0 : W32) ∈ C ∧ ev = errV 1 ∧ Sk s y ry n (osum A)) ∨ ((0 : W32) ∉ C ∧ ev = .d .nili ∧ Sk s y ry n (osum (A ++ C)))) :
    wcode (Dn.Call Γ cx) cx c7_k14 [(0, I n), (1, .d dA), (2, .d dC), (7, .ref x 0), (8, ev), (9, .ref y 0), (10, vM)] s puQ := by
  have e1 : errV 1 = .d (.iface 39 (.int .i64 1)) := rfl
  simp -implicitDefEqProofs [c7_k14]
  refine use_fn (ds := [.d dC]) rfl (s_none hC (by omega)) rfl ?_
  rcases hy with ⟨z, rfl, hy⟩ | ⟨z, rfl, hy⟩
  · have z' : (0#32 : W32) ∈ C := z
    simp -implicitDefEqProofs [z', c7_k13, c7_k11, c7_k10]
    refine use_fn (ds := [errV 1, I 1]) rfl (s_Is 1 1) rfl ?_
    simp -implicitDefEqProofs [c7_k9]
    exact law7_k8a h1 h40 hA lA hA (by omega) zA hx hxr hy hyr h3 h4
  · have z' : (0#32 : W32) ∉ C := z
    simp -implicitDefEqProofs [z', c7_k13, eqV, V.isNil, Opd.isC, c7_k12]
    refine law7_k8b h1 h40 hA lA hM (by rw [List.length_append]; omega) (fun e => ?_) hx hxr hy hyr h3 h4
    rcases List.mem_append.1 e with h | h
    · exact zA h
    · exact z h
theorem law7_k15 {s : St} {x y rx ry n : Nat} {A C : List W32} {dA dC : D} (h1 : 1 ≤ n) (h40 : n ≤ 40) (hA : PL dA A) (lA : A.length ≤ 20) (zA : (0 : W32) ∉ A) (hC : PL dC C) (lC : C.length ≤ 20)
    (hx : Sk s x rx n (osum A)) (hxr : x ≠ rx) (hyr : y ≠ ry) (h3 : x ≠ ry) (h4 : rx ≠ ry) {ev : V} (hy : ((0 : W32) ∈ C ∧ ev = errV 1 ∧ Sk s y ry n (osum A)) ∨ ((0 : W32) ∉ C ∧ ev = .d .nili ∧ Sk s y ry n (osum (A ++ C)))) :
    wcode (Dn.Call Γ cx) cx c7_k15 [(0, I n), (1, .d dA), (2, .d dC), (7, .ref x 0), (8, ev), (9, .ref y 0)] s puQ := by
  obtain ⟨v1, s3, v2, s4, p1, p2, o1, o2, lv, ap⟩ := app2 (s := s) hA hC (by omega) (by omega)
  simp -implicitDefEqProofs [c7_k15, isObj, repl, rowsOf, frzV]
  refine i_app_f (v := v1) (s := s3) ?_ ?_
  · simp [evalE, Opd.ev, Env.get, hA.rows]
    exact p1 _
  simp -implicitDefEqProofs
  refine i_app_f (v := v2) (s := s4) ?_ ?_
  · simp [evalE, Opd.ev, Env.get, hC.rows]
    exact p2 _
  simp -implicitDefEqProofs
  have up : ∀ {z r : Nat} {f : Nat → W32}, Sk s z r n f → Sk s4 z r n f := fun h => ⟨by rw [o2]; exact h.o, by rw [o2]; exact h.l⟩
  refine law7_k14 h1 h40 hA lA zA hC lC lv (up hx) hxr hyr h3 h4 ?_
  rcases hy with ⟨a, b, c⟩ | ⟨a, b, c⟩
  · exact .inl ⟨a, b, up c⟩
  · exact .inr ⟨a, b, up c⟩
theorem law7_k17 {s : St} {x rx n : Nat} {A C : List W32} {dA dC : D} (h1 : 1 ≤ n) (h40 : n ≤ 40) (hA : PL dA A) (lA : A.length ≤ 20) (zA : (0 : W32) ∉ A) (hC : PL dC C) (lC : C.length ≤ 20)
    (hx : Sk s x rx n (osum A)) (hxr : x ≠ rx) :
    wcode (Dn.Call Γ cx) cx c7_k17 [(0, I n), (1, .d dA), (2, .d dC), (7, .ref x 0)] s puQ := by
  have hxl := (List.getElem?_eq_some_iff.1 hx.o).1
  have hrl := (List.getElem?_eq_some_iff.1 hx.l).1
  simp -implicitDefEqProofs [c7_k17]
  refine use_raw (s_Copy (hx.toR (fun e => hxr e.symm)) h1 (by omega)) fun w s2 ⟨y, ry, hw, hy, hyr, ly, lr, hf, ht⟩ => ?_
  subst hw
  have hx2 : Sk s2 x rx n (osum A) := ⟨hf.get hx.o (by simp), hf.get hx.l (by simp)⟩
  simp -implicitDefEqProofs [c7_k16]
  have hCI : LV (.d dC) (uRows (C.map un)) := by rw [uRows_map]; exact hC
  by_cases z : (0 : W32) ∈ C
  · refine use_raw (s_skPutZ hCI ((un_zero_mem C).2 z) (by simpa using (by omega : C.length ≤ 1000))) fun w s3 ⟨hw, hs⟩ => ?_
    subst hw hs
    simp -implicitDefEqProofs
    exact law7_k15 h1 h40 hA lA zA hC lC hx2 hxr hyr (by omega) (by omega) (.inl ⟨z, rfl, hy⟩)
  · refine use_raw (s_skPut hy hyr (by omega) hCI (un_bound C) (fun e => z ((un_zero_mem C).1 e)) (by simpa using (by omega : C.length ≤ 1000))) fun w s3 ⟨hw, hS, hf3, ht3⟩ => ?_
    subst hw
    rw [acc_app] at hS
    have hx3 : Sk s3 x rx n (osum A) := ⟨hf3.get hx2.o (by simp; omega), hf3.get hx2.l (by simp; omega)⟩
    simp -implicitDefEqProofs
    exact law7_k15 h1 h40 hA lA zA hC lC hx3 hxr hyr (by omega) (by omega) (.inr ⟨z, rfl, hS⟩)
theorem law7 {d0 dA dC : D} (h0 : (Lk.int .i64).fits d0) (fA : wordsK.fits dA) (fC : wordsK.fits dC) : Dn.Call Γ cx .val 7 [.d d0, .d dA, .d dC] St.empty fun r _ => r = B true := by
  obtain ⟨c, rfl, -, -⟩ := h0
  obtain ⟨A, hA⟩ := words_fit fA
  obtain ⟨C, hC⟩ := words_fit fC
  refine Dn.Call.body (fc := c7) rfl ?_
  have hlA : ∀ σ, lenT σ .slice (.d dA) = some A.length := fun σ => by rw [hA.len, pR_len]
  have hlC : ∀ σ, lenT σ .slice (.d dC) = some C.length := fun σ => by rw [hC.len, pR_len]
  simp -implicitDefEqProofs [c7, c7_k24]
  refine use_fn rfl s_alive rfl ?_
  by_cases g1 : (20 : Int) < A.length
  · simp -implicitDefEqProofs [c7_k23, c7_k22, hlA, g1, c7_k21]
  by_cases g2 : (20 : Int) < C.length
  · simp -implicitDefEqProofs [c7_k23, c7_k22, hlA, g1, hlC, g2, c7_k21]
  by_cases g3 : c < 1
  · simp -implicitDefEqProofs [c7_k23, c7_k22, hlA, g1, hlC, g2, g3, c7_k21]
  by_cases g4 : (40 : Int) < c
  · simp -implicitDefEqProofs [c7_k23, c7_k22, hlA, g1, hlC, g2, g3, g4, c7_k21]
  simp -implicitDefEqProofs [c7_k23, c7_k22, hlA, g1, hlC, g2, g3, g4]
  refine use_fn (ds := [.d dA]) rfl (s_none hA (by omega)) rfl ?_
  by_cases z1 : (0 : W32) ∈ A
  · have z1' : (0#32 : W32) ∈ A := z1
    simp -implicitDefEqProofs [z1', c7_k21]
  have z1' : (0#32 : W32) ∉ A := z1
  simp -implicitDefEqProofs [z1', c7_k21, c7_k20]
  refine use_raw (s_newW (n := c) hA (by omega)) fun w s5 ⟨hq, hf5, ht5⟩ => ?_
  rcases hq with ⟨hb, -⟩ | ⟨-, x, r, rfl, hSk, hxr⟩
  · rcases hb with h | h | h
    · omega
    · omega
    · exact absurd h z1
  simp -implicitDefEqProofs [c7_k19, eqV, V.isNil, Opd.isC, c7_k18]
  obtain ⟨n, rfl⟩ : ∃ n : Nat, c = (n : Int) := ⟨c.toNat, by omega⟩
  rw [Int.toNat_natCast] at hSk
  exact law7_k17 (by omega) (by omega) hA (by omega) z1 hC (by omega) hSk hxr
end Go.Proofs.Ytmlkdfjojoophaa.T
