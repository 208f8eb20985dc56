import Derived.Test.YtmlkdfjojoophaaF21
namespace Go.Proofs.Ytmlkdfjojoophaa.T
open Go.Dn
attribute [local simp] body_eq globEnv GB List.map_nil List.map_cons List.append_nil w_rangeF i_next i_makeMap i_range i_update i_delete i_entry i_clone entryV cloneV q_rndA q_rndB_n q_rndB_e q_rndB_r setAll w_skip w_ops w_seq w_cond w_block w_exit w_ret q_then_n q_then_e q_then_r q_blk_n q_blk_e q_blk_r q_ops q_cont q_end_n q_end_r q_end_e q_loop_n q_loop_e q_loop_r i_nil i_p i_alloc i_box i_store i_copy i_clear i_call i_callv i_when t_nil t_p t_call t_alloc t_box t_store kept_nil t_copy t_clear q_tcont gsel List.cons_append List.nil_append evalP evalE evalF evalB isObj thaw Opd.ev Env.get Env.set Env.pick putE initEnv evalBin intBin evalUn evalConv goneAll goneOne retV resAll Res.ev tupOf byVals byValsN bv_d bv_da bv_fl bv_tl bn_d bn_da bn_fl bn_tl cx Dn.newObj St.place St.push St.spot St.empty cell_d cell_da cell_agg cell_ref cell_sl cell_fl cell_tl cell_map cell_fn cell_ifc loadAt faddrV partOf extractV mkAgg ofD splice St.setObj fillV
set_option linter.unusedSimpArgs false
set_option linter.unusedVariables false

/-! ### sketches as they are read -/
def fnL (n : Nat) (f : Nat → W32) : List W32 := (List.range n).map f
theorem fnL_len (n : Nat) (f : Nat → W32) : (fnL n f).length = n := by simp [fnL]
theorem fnL_wV (n : Nat) (f : Nat → W32) : wV (fnL n f) = fnV n f := by
  unfold wV fnL fnV
  rw [List.map_map]
  rfl
theorem fnL_co {n : Nat} (f : Nat → W32) {k : Nat} (h : k < n) : (fnL n f).getD k 0 = f k := by
  rw [List.getD_eq_getElem?_getD]
  simp [fnL, h]
/-- The object of a sketch, as it is read. -/
structure SkR (s : St) (y : Nat) (v : V) (L : List W32) : Prop where
  o : s.objs[y]? = some (.cells [v])
  r : Rd s v L
  n : ∀ r off n sz, v = .sl r off n sz → r ≠ y
theorem SkR.fr {σ s : St} {y : Nat} {v : V} {L : List W32} (h : SkR σ y v L) (hf : Fr [] σ s) : SkR s y v L := ⟨hf.get h.o (by simp), h.r.fr hf, h.n⟩
theorem Sk.toR {s : St} {y r n : Nat} {f : Nat → W32} (h : Sk s y r n f) (hne : r ≠ y) : SkR s y (.sl r 0 n 1) (fnL n f) := by
  refine ⟨h.o, ?_, fun r' off n' sz e => by cases e; exact hne⟩
  have hl := h.l
  rw [← fnL_wV] at hl
  have := Rd.whole hl
  rwa [fnL_len] at this
theorem s_skCap {σ : St} {y : Nat} {v : V} {L : List W32} (h : SkR σ y v L) : Dn.Call Γ cx .rd 13 [.ref y 0] σ fun w _ => w = I L.length := by
  refine Dn.Call.body (fc := c13) rfl ?_
  have hl := fun σ => h.r.len σ
  simp -implicitDefEqProofs [c13, c13_k2, eqV, V.isNil, Opd.isC, c13_k1, c13_k0, nilCheckV, h.o, hl]
  exact ⟨fun i hi => rfl, fun t k ht => ht⟩

/-! powers -/
def powTo (L : List W32) : Nat → List W32
  | 0 => []
  | i + 1 => powTo L i ++ [if i % 2 = 0 then L.getD (i / 2) 0 else Gf.sq ((powTo L i).getD (i / 2) 0)]
theorem powTo_len (L : List W32) : ∀ i, (powTo L i).length = i
  | 0 => rfl
  | i + 1 => by simp [powTo, powTo_len L i]
def powL (L : List W32) : List W32 := powTo L (2 * L.length)
theorem powTo_co (L : List W32) : ∀ {n i : Nat}, i < n → (powTo L n).getD i 0 = if i % 2 = 0 then L.getD (i / 2) 0 else Gf.sq ((powTo L i).getD (i / 2) 0)
  | 0, i, h => by omega
  | n + 1, i, h => by
    simp only [powTo]
    rw [List.getD_eq_getElem?_getD]
    by_cases hi : i < n
    · rw [List.getElem?_append_left (by rw [powTo_len]; exact hi), ← List.getD_eq_getElem?_getD]
      exact powTo_co L hi
    · obtain rfl : i = n := by omega
      rw [List.getElem?_append_right (by rw [powTo_len]; exact Nat.le_refl _), powTo_len, Nat.sub_self]
      rfl
def InvPw (σ : St) (y : Nat) (L : List W32) (N : Nat) (m : Nat) (e : Env) (s : St) : Prop := ∃ i : Nat, e = [(0, .ref y 0), (3, .sl σ.objs.length 0 N 1), (13, I N), (14, I i)] ∧ m = N - i ∧ i ≤ N ∧ New σ s (.sl σ.objs.length 0 N 1) (powTo L i ++ List.replicate (N - i) 0)
theorem pow_set (L : List W32) {N i : Nat} (hi : i < N) (w : W32) : (powTo L i ++ List.replicate (N - i) 0).set i w = (powTo L i ++ [w]) ++ List.replicate (N - (i + 1)) 0 := by
  obtain ⟨k, hk⟩ : ∃ k, N - i = k + 1 := ⟨N - i - 1, by omega⟩
  have hk2 : N - (i + 1) = k := by omega
  rw [hk, hk2, List.set_append_right _ _ (by rw [powTo_len]; exact Nat.le_refl _), powTo_len, Nat.sub_self, List.replicate_succ, List.set_cons_zero, List.append_assoc]
  rfl
theorem s_powers {σ : St} {y : Nat} {v : V} {L : List W32} (h : SkR σ y v L) (lL : L.length ≤ 100) : Dn.Call Γ cx .rd 36 [.ref y 0] σ (isPL (powL L)) := by
  refine Dn.Call.body (fc := c36) rfl ?_
  have hl := fun σ => h.r.len σ
  have w1 : IntKind.i64.wrap (2 * (L.length : Int)) = ((2 * L.length : Nat) : Int) := by rw [wrap_i64 (by omega) (by omega)]; omega
  obtain ⟨N, hN⟩ : ∃ N, 2 * L.length = N := ⟨_, rfl⟩
  rw [hN] at w1
  simp -implicitDefEqProofs [c36, c36_k10, nilCheckV, h.o, hl, w1]
  refine i_app_f (v := .sl σ.objs.length 0 N 1) (s := ⟨σ.objs ++ [.cells (wV (List.replicate N 0))], σ.toks⟩) ?_ ?_
  · have b1 : (N : Int) * 4 ≤ 140737488355328 := by omega
    have b2 : (N : Int) ≤ 9223372036854775807 := by omega
    simp [evalE, Opd.ev, Env.get, b1, b2, repl_wV, Dn.newObj, St.place, St.push, St.spot]
  simp -implicitDefEqProofs [c36_k9, lenT, Dn.lenV, c36_k8]
  have hyl : y < σ.objs.length := (List.getElem?_eq_some_iff.1 h.o).1
  have h00 : New σ ⟨σ.objs ++ [.cells (wV (List.replicate N 0))], σ.toks⟩ (.sl σ.objs.length 0 N 1) (powTo L 0 ++ List.replicate (N - 0) 0) := by
    refine ⟨?_, Fr.push1 _ _, fun r off n sz e => by cases e; exact Nat.le_refl _, rfl⟩
    have : Ob ⟨σ.objs ++ [.cells (wV (List.replicate N 0))], σ.toks⟩ (.sl σ.objs.length 0 (List.replicate N (0 : W32)).length 1) (List.replicate N 0) := .sl (by simp)
    rw [List.length_replicate] at this
    exact this
  refine wloopI (InvPw σ y L N) (m := N) ⟨0, rfl, rfl, by omega, h00⟩ ?_
  rintro m e s ⟨i, rfl, rfl, hi, hN2⟩
  have hS := h.fr hN2.fr
  rcases hin : decide ((i : Int) < N) with _ | _
  · have hlt : ¬ (i : Int) < N := of_decide_eq_false hin
    obtain rfl : i = N := by omega
    rw [Nat.sub_self, List.replicate_zero, List.append_nil] at hN2
    obtain ⟨d, b1, l1⟩ := hN2.ob.rd.byVal
    have hbn : V.byValN σ.objs.length s (.sl σ.objs.length 0 i 1) = some (.d d) := by
      simp only [V.byValN]
      rw [if_pos (Nat.le_refl _)]
      exact b1
    simp -implicitDefEqProofs [hlt, c36_l7, c36_k6, c36_k0, hbn]
    exact ⟨hN2.fr.keeps (fun t k ht => by rw [hN2.tk]; exact ht), d, rfl, by unfold powL; rw [hN]; exact l1⟩
  have hlt : (i : Int) < N := of_decide_eq_true hin
  have hi2 : i < N := by omega
  have hset := fun w => hN2.set (i := i) hi2 (by simp [powTo_len]; omega) w
  have hsv := fun w => wV_set (L := powTo L i ++ List.replicate (N - i) 0) (i := i) (by simp [powTo_len]; omega) w
  have hps := fun w => pow_set L hi2 w
  have hob := hN2.obj.1
  have hlV := wV_len (powTo L i ++ List.replicate (N - i) (0 : W32))
  have hll : (powTo L i ++ List.replicate (N - i) (0 : W32)).length = N := by simp [powTo_len]; omega
  rw [hll] at hlV
  have ia := fun s => iaddr_sl s (q := σ.objs.length) (n := N) (i := i) hi2
  have w9 : IntKind.i64.wrap ((i : Int) + 1) = ((i + 1 : Nat) : Int) := by rw [wrap_i64 (by omega) (by omega)]; omega
  have w2 : IntKind.i64.wrap ((i : Int) / 2) = ((i / 2 : Nat) : Int) := by
    rw [wrap_i64 (by omega) (by omega)]
    omega
  have hrem : (i : Int).tmod 2 = ((i % 2 : Nat) : Int) := rfl
  obtain ⟨k, hk⟩ : ∃ k, i / 2 = k := ⟨_, rfl⟩
  rw [hk] at w2
  have hi1 : i + 1 ≤ N := by omega
  by_cases hev : i % 2 = 0
  · obtain ⟨a, ha⟩ : ∃ a, L[k]? = some a := ⟨_, List.getElem?_eq_getElem (by omega)⟩
    obtain ⟨ad, h1, h2⟩ := hS.r.at ha
    have hstep : powTo L (i + 1) = powTo L i ++ [a] := by
      simp only [powTo]
      rw [if_pos hev, hk, getD_at ha]
    have e0 : ((i % 2 : Nat) : Int) = 0 := by omega
    have hs1 := hset a
    have hs2 := hsv a
    rw [hps, ← hstep] at hs1 hs2
    generalize wV (powTo L i ++ List.replicate (N - i) (0 : W32)) = cs at *
    simp -implicitDefEqProofs [-loadAt, -splice, hlt, c36_l7, c36_k6, c36_k5, c36_k4, c36_k3, hrem, e0, hev, c36_k2, c36_k1]
    have hl0 : loadAt s false 1 (.ref y 0) = some v := by simp [loadAt, hS.o]
    simp -implicitDefEqProofs [-loadAt, -splice, nilCheckV, hl0, w2, h1, h2, ia, hob, hlV, hi1, hs2, w9]
    exact ⟨N - (i + 1), by omega, i + 1, rfl, rfl, by omega, hs1⟩
  · obtain ⟨a, ha⟩ : ∃ a, (powTo L i)[k]? = some a := ⟨_, List.getElem?_eq_getElem (by rw [powTo_len]; omega)⟩
    have ha2 : (powTo L i ++ List.replicate (N - i) (0 : W32))[k]? = some a := by rw [List.getElem?_append_left (by rw [powTo_len]; omega)]; exact ha
    have hat := wV_at ha2
    have hstep : powTo L (i + 1) = powTo L i ++ [Gf.mul a a] := by
      simp only [powTo]
      rw [if_neg hev, hk, getD_at ha]
      rfl
    have e0 : ¬ (i : Int) % 2 = 0 := by omega
    have hs1 := hset (Gf.mul a a)
    have hs2 := hsv (Gf.mul a a)
    rw [hps, ← hstep] at hs1 hs2
    have iak := fun s => iaddr_sl s (q := σ.objs.length) (n := N) (i := k) (by omega)
    generalize wV (powTo L i ++ List.replicate (N - i) (0 : W32)) = cs at *
    simp -implicitDefEqProofs [hlt, c36_l7, c36_k6, c36_k5, c36_k4, c36_k3, hrem, e0, hev, c36_k2, w2, iak, hob, hat]
    refine use_fn rfl (s_Square a) rfl ?_
    simp -implicitDefEqProofs [-splice, ia, hob, hlV, hi1, hs2, w9]
    exact ⟨N - (i + 1), by omega, i + 1, rfl, rfl, by omega, hs1⟩
end Go.Proofs.Ytmlkdfjojoophaa.T

namespace Go.Proofs.Ytmlkdfjojoophaa.T
open Go.Dn
attribute [local simp] body_eq globEnv GB List.map_nil List.map_cons List.append_nil w_rangeF i_next i_makeMap i_range i_update i_delete i_entry i_clone entryV cloneV q_rndA q_rndB_n q_rndB_e q_rndB_r setAll w_skip w_ops w_seq w_cond w_block w_exit w_ret q_then_n q_then_e q_then_r q_blk_n q_blk_e q_blk_r q_ops q_cont q_end_n q_end_r q_end_e q_loop_n q_loop_e q_loop_r i_nil i_p i_alloc i_box i_store i_copy i_clear i_call i_callv i_when t_nil t_p t_call t_alloc t_box t_store kept_nil t_copy t_clear q_tcont gsel List.cons_append List.nil_append evalP evalE evalF evalB isObj thaw Opd.ev Env.get Env.set Env.pick putE initEnv evalBin intBin evalUn evalConv goneAll goneOne retV resAll Res.ev tupOf byVals byValsN bv_d bv_da bv_fl bv_tl bn_d bn_da bn_fl bn_tl cx Dn.newObj St.place St.push St.spot St.empty cell_d cell_da cell_agg cell_ref cell_sl cell_fl cell_tl cell_map cell_fn cell_ifc loadAt faddrV partOf extractV mkAgg ofD splice St.setObj fillV
set_option linter.unusedSimpArgs false
set_option linter.unusedVariables false
open Gf (dg)

/-! ### which sets have given sums -/
def osum (T : List W32) (k : Nat) : W32 := lsum T fun x => oddp x k
theorem acc_map (f : Nat → W32) (k : Nat) : ∀ (T : List W32), acc f (T.map un) k = f k ^^^ osum T k := by
  intro T
  unfold acc osum
  generalize f k = a
  induction T generalizing a with
  | nil => exact (Gf.x0 a).symm
  | cons x T ih =>
    simp only [List.map_cons, List.foldl_cons, lsum]
    rw [ih, wof_un, BitVec.xor_assoc]
theorem acc_osum (T : List W32) : acc (fun _ => 0) (T.map un) = osum T := by
  funext k
  rw [acc_map]
  exact Gf.zx _
theorem uRows_map (T : List W32) : uRows (T.map un) = pR T := by
  unfold uRows pR
  rw [List.map_map]
  rfl
theorem un_bound (T : List W32) : ∀ i ∈ T.map un, 0 ≤ i ∧ i ≤ 4294967295 := fun i hi => by
  obtain ⟨w, _, rfl⟩ := List.mem_map.1 hi
  have := w.isLt
  simp only [un]
  omega
theorem un_zero_mem (T : List W32) : (0 : Int) ∈ T.map un ↔ (0 : W32) ∈ T := by
  constructor
  · intro h
    obtain ⟨w, hw, h0⟩ := List.mem_map.1 h
    have := (un_zero_iff w).1 h0
    rwa [this] at hw
  · intro h
    exact List.mem_map.2 ⟨0, h, rfl⟩
structure Valid (L T : List W32) : Prop where
  nd : T.Nodup
  nz : (0 : W32) ∉ T
  ln : T.length ≤ L.length
  sm : ∀ k, k < L.length → L.getD k 0 = osum T k
theorem sq_npow (x : W32) (n : Nat) : Gf.sq (Gf.npow x n) = Gf.npow x (2 * n) := by
  unfold Gf.sq
  rw [← Gf.npow_add, Nat.two_mul]
theorem sq_lsum (f : W32 → W32) : ∀ T : List W32, Gf.sq (lsum T f) = lsum T fun x => Gf.sq (f x)
  | [] => Gf.sq_zero
  | x :: T => by simp only [lsum]; rw [Gf.sq_xor, sq_lsum f T]
theorem pows_of {L T : List W32} (h : ∀ k, k < L.length → L.getD k 0 = osum T k) : ∀ n, n ≤ 2 * L.length → ∀ i, i < n → (powTo L n).getD i 0 = lsum T fun x => Gf.npow x (i + 1) := by
  intro n hn i
  induction i using Nat.strongRecOn generalizing n with
  | _ i ih =>
    intro hi
    rw [powTo_co L hi]
    split
    · rename_i he
      rw [h _ (by omega)]
      unfold osum oddp
      rw [show 2 * (i / 2) + 1 = i + 1 by omega]
    · rename_i he
      rw [ih (i / 2) (by omega) i (by omega) (by omega), sq_lsum]
      refine lsum_congr fun x _ => ?_
      rw [sq_npow, show 2 * (i / 2 + 1) = i + 1 by omega]
theorem Valid.pows {L T : List W32} (h : Valid L T) : Pows T (powL L) := fun i hi => pows_of h.sm (2 * L.length) (Nat.le_refl _) i (by
  unfold powL at hi
  rwa [powTo_len] at hi)
theorem Valid.rule {L T : List W32} (h : Valid L T) : (ruleL (powL L)).reverse = Gf.prodL T :=
  rule_prod h.nd h.nz h.pows (by unfold powL; rw [powTo_len]; have := h.ln; omega)
/-- There is at most one set. -/
theorem Valid.unique {L T T' : List W32} (h : Valid L T) (h' : Valid L T') : T.Perm T' := by
  have e : Gf.prodL T = Gf.prodL T' := h.rule.symm.trans h'.rule
  refine (List.perm_ext_iff_of_nodup h.nd h'.nd).2 fun x => ?_
  rw [← Gf.ev_prodL (S := T), e, Gf.ev_prodL]
theorem lsum_perm (f : W32 → W32) {T T' : List W32} (h : T.Perm T') : lsum T f = lsum T' f := by
  induction h with
  | nil => rfl
  | cons x _ ih => simp only [lsum]; rw [ih]
  | swap x y l => simp only [lsum]; rw [← BitVec.xor_assoc, ← BitVec.xor_assoc, BitVec.xor_comm (f y)]
  | trans _ _ h1 h2 => exact h1.trans h2
theorem Valid.perm {L T T' : List W32} (h : Valid L T) (hp : T.Perm T') : Valid L T' :=
  ⟨hp.nodup_iff.1 h.nd, fun e => h.nz (hp.mem_iff.2 e), by rw [← hp.length_eq]; exact h.ln, fun k hk => by rw [h.sm k hk]; exact lsum_perm _ hp⟩
/-- Those that stand an odd number of times. -/
theorem odd_set : ∀ ids : List W32, ∃ T : List W32, T.Nodup ∧ (∀ x ∈ T, x ∈ ids) ∧ T.length ≤ ids.length ∧ ∀ f, lsum T f = lsum ids f
  | [] => ⟨[], List.nodup_nil, by simp, Nat.le_refl _, fun _ => rfl⟩
  | x :: ids => by
    obtain ⟨T, h1, h2, h3, h4⟩ := odd_set ids
    by_cases hx : x ∈ T
    · have hp := List.perm_cons_erase hx
      refine ⟨T.erase x, h1.erase x, fun y hy => List.mem_cons_of_mem _ (h2 y (List.mem_of_mem_erase hy)), ?_, fun f => ?_⟩
      · have := hp.length_eq
        simp at this ⊢
        omega
      · have := lsum_perm f hp
        simp only [lsum] at this ⊢
        rw [← h4 f, this, ← BitVec.xor_assoc, Gf.xs, Gf.zx]
    · exact ⟨x :: T, List.nodup_cons.2 ⟨hx, h1⟩, fun y hy => by
        rcases List.mem_cons.1 hy with rfl | hy
        · simp
        · exact List.mem_cons_of_mem _ (h2 y hy), by simp; omega, fun f => by simp only [lsum]; rw [h4 f]⟩

/-! ### New, with a 0 -/
theorem s_skPutZ {σ : St} {x : Nat} {v : V} {ids : List Int} (hv : LV v (uRows ids)) (hz : (0 : Int) ∈ ids) (hlen : ids.length ≤ 1000) :
    Dn.Call Γ cx .raw 28 [.ref x 0, v] σ fun w s => w = errV 1 ∧ s = σ := by
  refine Dn.Call.body (fc := c28) rfl ?_
  have hdv := hv.dv σ
  obtain ⟨y, hy⟩ := hdv.2.2.1
  have hc := s_Contains (x := y) (L := ids) (hy ▸ hdv.2.1) (h := 0) (by omega)
  have hcv : decide ((0 : Int) ∈ ids) = true := by simpa using hz
  rw [hcv] at hc
  simp -implicitDefEqProofs [c28, c28_k7, eqV, V.isNil, Opd.isC]
  refine use_fn (ds := [.d y, X 0]) (by simp only [byVals, bv_d, hdv.1, hy]) hc (Bool.or_true _) ?_
  simp -implicitDefEqProofs [c28_k6, mkifV, errV]
theorem s_skNewZ {σ : St} {n : Nat} (h1 : 1 ≤ n) (h2 : n ≤ 40) {v : V} {ids : List Int} (hv : LV v (uRows ids)) (hz : (0 : Int) ∈ ids) (hlen : ids.length ≤ 1000) :
    Dn.Call Γ cx .raw 11 [I n, v] σ fun w s => w = .tup [.d .nilp, errV 1] ∧ Fr [] σ s ∧ s.toks = σ.toks := by
  refine Dn.Call.body (fc := c11) rfl ?_
  have l1 : ¬ (n : Int) < 1 := by omega
  have l2 : ¬ (40 : Int) < n := by omega
  have l1' : (1 : Int) ≤ n := by omega
  have l2' : (n : Int) ≤ 40 := by omega
  obtain ⟨n1, hn1⟩ : ∃ n1 : Int, (n : Int) = n1 := ⟨_, rfl⟩
  simp -implicitDefEqProofs [c11, c11_k6, l1, l2, c11_k5]
  simp -implicitDefEqProofs [c11_k4]
  refine i_app_f (v := .sl σ.objs.length 0 n 1) (s := ⟨σ.objs ++ [.cells (fnV n fun _ => 0)], σ.toks⟩) ?_ ?_
  · have hb : (n : Int) * 4 ≤ 140737488355328 := by omega
    have hb2 : (n : Int) ≤ 9223372036854775807 := by omega
    have hr : repl n [.int .u32 0] = fnV n fun _ => 0 := by
      rw [← zeros_fn]
      exact repl_one n
    simp [evalE, Opd.ev, Env.get, hb, hb2, hr, Dn.newObj, St.place, St.push, St.spot]
  simp -implicitDefEqProofs
  refine use_raw (s_skPutZ hv hz hlen) fun w s ⟨hw, hs⟩ => ?_
  subst hw hs
  simp -implicitDefEqProofs [errV, eqV, V.isNil, Opd.isC, c11_k3, c11_k2, c11_k1]
  exact ⟨by simp, fun q _ hq => by simp only; rw [List.getElem?_append_left hq]⟩

/-! ### Decode -/
def decQ (L : List W32) (v : V) : Prop := (v = .tup [.d .nils, errV 13] ∧ ∀ T, ¬ Valid L T) ∨ (∃ d T, v = .tup [.d d, .d .nili] ∧ PL d T ∧ Valid L T ∧ T.Pairwise fun a b => un a ≤ un b)
theorem dec_eq {σ s : St} {y x r : Nat} {v : V} {L ids : List W32} {d : D} (hy : SkR s y v L) (lL : L.length ≤ 40) (hx : SkR s x (.sl r 0 L.length 1) (fnL L.length (osum ids))) (hf : Fr [] σ s) (ht : s.toks = σ.toks) (hok : fnL L.length (osum ids) = L → ∃ T, PL d T ∧ Valid L T ∧ T.Pairwise fun a b => un a ≤ un b) (hno : fnL L.length (osum ids) ≠ L → ∀ T, ¬ Valid L T) :
    wcode (Dn.Call Γ cx) cx c15_k2 [(0, .ref y 0), (5, .d d), (7, .ref x 0), (8, .d .nili)] s (endQ .raw σ c15.res fun w s => decQ L w ∧ Fr [] σ s ∧ s.toks = σ.toks) := by
  obtain ⟨d1, b1, l1⟩ := hx.r.byVal
  obtain ⟨d2, b2, l2⟩ := hy.r.byVal
  have hlx := fnL_len L.length (osum ids)
  simp only [c15_k2, w_seq, c15]
  refine w_drwX (fun _ => .val) [] (by decide +kernel) ?_
  simp only [room_zero]
  simp -implicitDefEqProofs [eqV, V.isNil, Opd.isC, nilCheckV, hx.o, hy.o]
  refine use_fnN (ds := [.d d1, .d d2]) rfl (by simp only [byVals, b1, b2]) (s_Equal l1 l2 (by omega) (by omega)) (Bool.or_true _) ?_
  simp only [q_tcont, putE, Env.set]
  by_cases he : fnL L.length (osum ids) = L
  · obtain ⟨T, h1, h2, h3⟩ := hok he
    simp -implicitDefEqProofs [he, c15_k1, c15_k0]
    exact ⟨.inr ⟨d, T, rfl, h1, h2, h3⟩, hf, ht⟩
  · simp -implicitDefEqProofs [he, c15_k1, mkifV]
    exact ⟨.inl ⟨rfl, hno he⟩, hf, ht⟩
theorem dec_err {σ s : St} {y : Nat} {L : List W32} {d : D} (hf : Fr [] σ s) (ht : s.toks = σ.toks) (hno : ∀ T, ¬ Valid L T) :
    wcode (Dn.Call Γ cx) cx c15_k2 [(0, .ref y 0), (5, .d d), (7, .d .nilp), (8, .d (.iface 39 (.int .i64 1)))] s (endQ .raw σ c15.res fun w s => decQ L w ∧ Fr [] σ s ∧ s.toks = σ.toks) := by
  simp only [c15_k2, w_seq, c15]
  refine w_drwX (fun _ => .val) [] (by decide +kernel) ?_
  simp only [room_zero]
  simp -implicitDefEqProofs [eqV, V.isNil, Opd.isC, nilCheckV, c15_k1, mkifV]
  exact ⟨.inl ⟨rfl, hno⟩, hf, ht⟩
theorem s_Decode {σ : St} {y : Nat} {v : V} {L : List W32} (h : SkR σ y v L) (l1 : 1 ≤ L.length) (l40 : L.length ≤ 40) : Dn.Call Γ cx .raw 15 [.ref y 0] σ fun w s => decQ L w ∧ Fr [] σ s ∧ s.toks = σ.toks := by
  refine Dn.Call.body (fc := c15) rfl ?_
  have hlv := fun σ => h.r.len σ
  have lp : (powL L).length = 2 * L.length := powTo_len L _
  simp -implicitDefEqProofs [c15, c15_k12, eqV, V.isNil, Opd.isC, c15_k11, c15_k10]
  refine use_rd' (s_powers h (by omega)) fun w s ⟨d, hw, hd⟩ => ?_
  subst hw
  simp -implicitDefEqProofs
  refine use_raw (s_Shortest hd (by omega)) fun w s ⟨r, hw, hN⟩ => ?_
  have hrl := ruleL_len (powL L)
  have hvr := fun {T : List W32} (hT : Valid L T) => hT.rule
  have hnb := (runM_len (powL L) (powL L).length).2.2.2
  generalize ruleL (powL L) = R at *
  generalize (runM (powL L) (powL L).length).len = n at *
  subst hw
  have hS := h.fr hN.fr
  have hob := hN.obj.1
  have hlsl : ∀ σ m, lenT σ .slice (.sl r 0 m 1) = some m := fun _ _ => rfl
  have w1 : IntKind.i64.wrap (n : Int) = (n : Int) := wrap_i64 (by omega) (by omega)
  by_cases hgt : L.length < n
  · have hgI : (L.length : Int) < n := by omega
    simp -implicitDefEqProofs [c15_k9, nilCheckV, hS.o, hlv, hlsl, hrl, w1, hgI, hgt, c15_k8, mkifV]
    refine ⟨.inl ⟨rfl, fun T hT => ?_⟩, hN.fr, hN.tk⟩
    have h2 := congrArg List.length (hvr hT)
    rw [List.length_reverse, hrl, Gf.prodL_len] at h2
    have := hT.ln
    omega
  have hgI : ¬ (L.length : Int) < n := by omega
  simp -implicitDefEqProofs [c15_k9, nilCheckV, hS.o, hlv, hlsl, hrl, w1, hgI, hgt, c15_k8, c15_k7]
  rw [← hrl]
  refine use_raw (s_Reverse hob (by omega)) fun w s2 ⟨ho2, hf2, ht2⟩ => ?_
  have hrf : σ.objs.length ≤ r := hN.nw _ _ _ _ rfl
  have hf2' : Fr [] σ s2 := ⟨Nat.le_trans hN.fr.len hf2.len, fun q _ hq => by
    rw [hf2.at_ q (by simp; omega) (Nat.lt_of_lt_of_le hq hN.fr.len)]
    exact hN.fr.at_ q (by simp) hq⟩
  have hrv : R.reverse.length = R.length := List.length_reverse
  have hlr : R.reverse.length = n + 1 := by omega
  have hrow : V.rows s2 (.sl r 0 R.length 1) = some (pR R.reverse) := by
    rw [← hrv]
    exact (Rd.whole ho2).rows
  generalize R.reverse = P at *
  simp -implicitDefEqProofs [c15_k6]
  refine use_thaw (ds := [.d (.list (pR P))]) (σ' := s2.setObj r .dead) (by simp only [thawV, hrow]) rfl rfl (s_Split (.list (pR P)) (by omega)) fun w s3 hw => ?_
  have hf3 : Fr [] σ (s2.setObj r .dead) := ⟨by simpa [St.setObj] using hf2'.len, fun q _ hq => by
    simp only [St.setObj]
    rw [List.getElem?_set_ne (by omega)]
    exact hf2'.at_ q (by simp) hq⟩
  have ht3 : (s2.setObj r .dead).toks = σ.toks := ht2.trans hN.tk
  have hS3 := h.fr hf3
  generalize s2.setObj r .dead = s4 at *
  have dP := Gf.dg_le P
  have hval : ∀ T, Valid L T → ¬ badP P ∧ (foundP (linearP P)).Perm T ∧ dg P = T.length + 1 := fun T hT => by
    have hPT : P = Gf.prodL T := hvr hT
    have hln := hT.ln
    have hd := Gf.prodL_dg T
    rw [hPT]
    refine ⟨?_, found_prod hT.nd (by omega), hd⟩
    unfold badP
    omega
  rcases hw with ⟨rfl, hbad⟩ | ⟨hnb2, d2, ids, rfl, hd2, hr2, hl2⟩
  · refine ⟨rfl, ?_⟩
    simp -implicitDefEqProofs [c15_k5, c15_k4, mkifV]
    refine ⟨.inl ⟨rfl, fun T hT => ?_⟩, hf3, ht3⟩
    obtain ⟨v1, v2, v3⟩ := hval T hT
    rcases hbad with hb | hb
    · exact v1 hb
    · rw [v2.length_eq, v3] at hb
      exact hb rfl
  refine ⟨rfl, ?_⟩
  simp -implicitDefEqProofs [c15_k5, c15_k4, c15_k3, nilCheckV, hS3.o, hlv]
  have hidl : ids.length ≤ 60 := hr2.2.2
  have hlvI : LV (.d d2) (uRows (ids.map un)) := by rw [uRows_map]; exact hd2
  have hvp : ∀ T, Valid L T → ids.Perm T := fun T hT => hr2.1.trans (hval T hT).2.1
  by_cases hz : (0 : W32) ∈ ids
  · refine use_raw (s_skNewZ l1 l40 hlvI ((un_zero_mem ids).2 hz) (by simp; omega)) fun w s5 ⟨hw, hf5, ht5⟩ => ?_
    subst hw
    simp -implicitDefEqProofs [errV]
    exact dec_err (hf3.trans hf5) (ht5.trans ht3) fun T hT => hT.nz ((hvp T hT).mem_iff.1 hz)
  refine use_raw (s_skNew l1 l40 hlvI (un_bound ids) (fun e => hz ((un_zero_mem ids).1 e)) (by simp; omega)) fun w s5 ⟨hw, hSk, hf5, ht5⟩ => ?_
  subst hw
  simp -implicitDefEqProofs
  rw [acc_osum] at hSk
  have hlS := (List.getElem?_eq_some_iff.1 hSk.l).1
  refine dec_eq (hS3.fr hf5) l40 (hSk.toR (by omega)) (hf3.trans hf5) (ht5.trans ht3) (fun he => ?_) (fun he T hT => ?_)
  · obtain ⟨T0, t1, t2, t3, t4⟩ := odd_set ids
    have hsm : ∀ k, k < L.length → L.getD k 0 = osum ids k := fun k hk => by
      have h6 := fnL_co (osum ids) hk
      rw [he] at h6
      exact h6
    have hT0 : Valid L T0 := ⟨t1, fun e => hz (t2 0 e), by omega, fun k hk => by rw [hsm k hk]; exact (t4 _).symm⟩
    exact ⟨ids, hd2, hT0.perm (hvp T0 hT0).symm, hr2.2.1⟩
  · apply he
    refine Gf.list_ext_co (fnL_len _ _) fun k hk => ?_
    rw [fnL_len] at hk
    rw [fnL_co _ hk, hT.sm k hk]
    exact lsum_perm _ (hvp T hT)
end Go.Proofs.Ytmlkdfjojoophaa.T

namespace Go.Proofs.Ytmlkdfjojoophaa.T
open Go.Dn
attribute [local simp] body_eq globEnv GB List.map_nil List.map_cons List.append_nil w_rangeF i_next i_makeMap i_range i_update i_delete i_entry i_clone entryV cloneV q_rndA q_rndB_n q_rndB_e q_rndB_r setAll w_skip w_ops w_seq w_cond w_block w_exit w_ret q_then_n q_then_e q_then_r q_blk_n q_blk_e q_blk_r q_ops q_cont q_end_n q_end_r q_end_e q_loop_n q_loop_e q_loop_r i_nil i_p i_alloc i_box i_store i_copy i_clear i_call i_callv i_when t_nil t_p t_call t_alloc t_box t_store kept_nil t_copy t_clear q_tcont gsel List.cons_append List.nil_append evalP evalE evalF evalB isObj thaw Opd.ev Env.get Env.set Env.pick putE initEnv evalBin intBin evalUn evalConv goneAll goneOne retV resAll Res.ev tupOf byVals byValsN bv_d bv_da bv_fl bv_tl bn_d bn_da bn_fl bn_tl cx Dn.newObj St.place St.push St.spot St.empty cell_d cell_da cell_agg cell_ref cell_sl cell_fl cell_tl cell_map cell_fn cell_ifc loadAt faddrV partOf extractV mkAgg ofD splice St.setObj fillV
set_option linter.unusedSimpArgs false
set_option linter.unusedVariables false

/-! ### Words, none, Is -/
theorem s_WordsW {x y : D} {X Y : List W32} (hx : PL x X) (hy : PL y Y) (lX : X.length ≤ 100000) (lY : Y.length ≤ 100000) : Dn.Call Γ cx .val 16 [.d x, .d y] St.empty fun v _ => v = B (decide (X = Y)) := by
  refine Dn.Call.body (fc := c16) rfl ?_
  have hlx : ∀ σ, lenT σ .slice (.d x) = some X.length := fun σ => by rw [hx.len, pR_len]
  have hly : ∀ σ, lenT σ .slice (.d y) = some Y.length := fun σ => by rw [hy.len, pR_len]
  by_cases hl : X.length = Y.length
  rotate_left
  · have hne : X ≠ Y := fun e => hl (by rw [e])
    have hlI : ¬ (X.length : Int) = Y.length := by omega
    simp -implicitDefEqProofs [c16, c16_k9, hlx, hly, hl, hlI, c16_k8, hne]
  simp -implicitDefEqProofs [c16, c16_k9, hlx, hly, hl, c16_k8, c16_k7, c16_k6]
  refine wloopI (fun m e s => InvEq x y X.length m e s ∧ ∀ i, i + m < X.length → X.getD i 0 = Y.getD i 0) (m := X.length) ⟨⟨0, by rw [hl]; rfl, rfl, by omega, rfl⟩, fun i hi => by omega⟩ ?_
  rintro m e s ⟨⟨i, rfl, rfl, hi, rfl⟩, hall⟩
  rcases hin : decide ((i : Int) < X.length) with _ | _
  · have hlt : ¬ (i : Int) < X.length := of_decide_eq_false hin
    have heq : X = Y := Gf.list_ext_co hl fun j hj => hall j (by omega)
    simp -implicitDefEqProofs [hlt, c16_l5, c16_k4, heq]
    omega
  have hlt : (i : Int) < X.length := of_decide_eq_true hin
  obtain ⟨a, ha⟩ : ∃ a, X[i]? = some a := ⟨_, List.getElem?_eq_getElem (by omega)⟩
  obtain ⟨b, hb⟩ : ∃ b, Y[i]? = some b := ⟨_, List.getElem?_eq_getElem (by omega)⟩
  have hia := fun σ => hx.iaddr σ (k := .i64) (sz := 1) (i := i) (pR_at ha) rfl
  have hib := fun σ => hy.iaddr σ (k := .i64) (sz := 1) (i := i) (pR_at hb) rfl
  have w9 : IntKind.i64.wrap ((i : Int) + 1) = ((i + 1 : Nat) : Int) := by rw [wrap_i64 (by omega) (by omega)]; omega
  simp -implicitDefEqProofs [hlt, c16_l5, c16_k4, c16_k3, c16_k2, c16_k1]
  refine w_drwX (fun _ => .val) [] (by decide +kernel) ?_
  simp only [room_zero]
  simp -implicitDefEqProofs [hia, hib]
  by_cases hab : a = b
  · subst hab
    simp -implicitDefEqProofs [c16_k0, w9]
    refine ⟨X.length - (i + 1), by omega, ⟨i + 1, rfl, rfl, by omega, rfl⟩, fun j hj => ?_⟩
    by_cases hji : j = i
    · subst hji
      have e1 := getD_at ha
      have e2 := getD_at hb
      rw [List.getD_eq_getElem?_getD] at e1 e2
      exact e1.trans e2.symm
    · have := hall j (by omega)
      rw [List.getD_eq_getElem?_getD, List.getD_eq_getElem?_getD] at this
      exact this
  · have hu : ¬ un a = un b := fun e => hab (by rw [← wof_un a, e, wof_un])
    have hne : X ≠ Y := fun e => hab (by rw [e, hb] at ha; exact (Option.some.inj ha).symm)
    simp -implicitDefEqProofs [hu, c16_k0, hne]
theorem errV_bv (c : Int) (s : St) : V.byVal s (errV c) = some (errV c) := by
  unfold errV
  split <;> rfl
theorem s_Is (c k : Int) : Dn.Call Γ cx .val 17 [errV c, I k] St.empty fun v _ => v = B (decide (c = k)) := by
  refine Dn.Call.body (fc := c17) rfl ?_
  simp -implicitDefEqProofs [c17, c17_k0]
  refine use_fn (ds := [errV c]) (by simp only [byVals, errV_bv]) (s_Num c) (Bool.or_true _) ?_
  simp -implicitDefEqProofs
def InvNone (x : D) (L : List W32) (m : Nat) (e : Env) (s : St) : Prop := ∃ i : Nat, e = [(5, .d x), (6, I L.length), (7, I i)] ∧ m = L.length - i ∧ i ≤ L.length ∧ s = St.empty ∧ (0 : W32) ∉ L.take i
theorem s_none {x : D} {L : List W32} (hx : PL x L) (hl : L.length ≤ 100000) : Dn.Call Γ cx .val 10 [.d x] St.empty fun v _ => v = B (decide ((0 : W32) ∈ L)) := by
  refine Dn.Call.body (fc := c10) rfl ?_
  have hlx : ∀ σ, lenT σ .slice (.d x) = some L.length := fun σ => by rw [hx.len, pR_len]
  simp -implicitDefEqProofs [c10, c10_k7, hlx, c10_k6]
  refine wloopI (InvNone x L) (m := L.length) ⟨0, rfl, rfl, by omega, rfl, by simp⟩ ?_
  rintro m e s ⟨i, rfl, rfl, hi, rfl, hz⟩
  rcases hin : decide ((i : Int) < L.length) with _ | _
  · have hlt : ¬ (i : Int) < L.length := of_decide_eq_false hin
    obtain rfl : i = L.length := by omega
    rw [List.take_length] at hz
    simp -implicitDefEqProofs [hlt, c10_l5, c10_k4]
    exact hz
  have hlt : (i : Int) < L.length := of_decide_eq_true hin
  obtain ⟨a, ha⟩ : ∃ a, L[i]? = some a := ⟨_, List.getElem?_eq_getElem (by omega)⟩
  have hia := fun σ => hx.iaddr σ (k := .i64) (sz := 1) (i := i) (pR_at ha) rfl
  have w9 : IntKind.i64.wrap ((i : Int) + 1) = ((i + 1 : Nat) : Int) := by rw [wrap_i64 (by omega) (by omega)]; omega
  by_cases h0 : a = 0
  · have hu : un a = 0 := (un_zero_iff a).2 h0
    have hm : (0 : W32) ∈ L := by rw [← h0]; exact List.mem_of_getElem? ha
    have hm' : (0#32 : W32) ∈ L := hm
    simp -implicitDefEqProofs [hlt, c10_l5, c10_k4, c10_k3, c10_k2, hia, c10_k1, hu, c10_k0, hm']
  · have hu : ¬ un a = 0 := fun e => h0 ((un_zero_iff a).1 e)
    simp -implicitDefEqProofs [hlt, c10_l5, c10_k4, c10_k3, c10_k2, hia, c10_k1, hu, c10_k0, w9]
    refine ⟨L.length - (i + 1), by omega, i + 1, rfl, rfl, by omega, rfl, ?_⟩
    rw [List.take_add_one, ha]
    simp only [Option.toList_some, List.mem_append, List.mem_singleton, not_or]
    exact ⟨hz, fun e => h0 e.symm⟩

/-! ### bytes of a sketch as it is read -/
def bL (L : List W32) : List UInt8 := skB (fun i => L.getD i 0) L.length
def InvSbR (σ : St) (v0 : V) (L : List W32) (m : Nat) (e : Env) (s : St) : Prop := ∃ (i : Nat) (v : V), e = [(3, v), (7, v0), (8, I L.length), (9, I i)] ∧ m = L.length - i ∧ i ≤ L.length ∧ Two σ s 1 1 v (.d .nils) (byteRows (skB (fun i => L.getD i 0) i)) []
def InvSb2R (σ : St) (v0 : V) (L : List W32) (i : Nat) (m : Nat) (e : Env) (s : St) : Prop := ∃ (k : Nat) (v : V), e = [(3, v), (5, Xw (L.getD i 0)), (7, v0), (8, I L.length), (9, I i), (13, I k)] ∧ m = 4 - k ∧ k ≤ 4 ∧ Two σ s 1 1 v (.d .nils) (byteRows (skB (fun i => L.getD i 0) i ++ (le4 (L.getD i 0)).take k)) []
theorem s_bytesR {σ : St} {v0 : V} {L : List W32} (h : Rd σ v0 L) (hn : L.length ≤ 1000) : Dn.Call Γ cx .rd 41 [v0] σ fun v _ => ∃ d, v = .d d ∧ LV (.d d) (byteRows (bL L)) := by
  refine Dn.Call.body (fc := c41) rfl ?_
  have hlv := fun σ => h.len σ
  simp -implicitDefEqProofs [c41, c41_k13, c41_k12, hlv, c41_k11]
  refine wloopI (InvSbR σ v0 L) (m := L.length) ⟨0, _, rfl, rfl, by omega, Two.nil σ 1 1⟩ ?_
  rintro m e s ⟨i, v, rfl, rfl, hi, hT⟩
  have hrd : Rd s v0 L := h.fr hT.fr
  rcases hin : decide ((i : Int) < L.length) with _ | _
  · have hlt : ¬ (i : Int) < L.length := of_decide_eq_false hin
    obtain rfl : i = L.length := by omega
    have hdv := hT.pa.lv.dv s
    obtain ⟨d, hd⟩ := hdv.2.2.1
    simp -implicitDefEqProofs [hlt, c41_l10, c41_k9, c41_k0, hT.pa.lv.byValN, hdv.1]
    exact ⟨hT.keeps, d, hd, hd ▸ hdv.2.1⟩
  have hlt : (i : Int) < L.length := of_decide_eq_true hin
  obtain ⟨w, hw⟩ : ∃ w, L[i]? = some w := ⟨_, List.getElem?_eq_getElem (by omega)⟩
  obtain ⟨ad, ha1, ha2⟩ := hrd.at hw
  have hgw : L.getD i 0 = w := getD_at hw
  have w9 : IntKind.i64.wrap ((i : Int) + 1) = ((i + 1 : Nat) : Int) := by rw [wrap_i64 (by omega) (by omega)]; omega
  simp -implicitDefEqProofs [-loadAt, hlt, c41_l10, c41_k9, c41_k8, ha1, ha2, c41_k7, c41_k6]
  refine wloopI (InvSb2R σ v0 L i) (m := 4) ⟨0, v, by rw [hgw]; rfl, rfl, by omega, by simpa using hT⟩ ?_
  rintro m e s2 ⟨k, v2, rfl, rfl, hk, hT2⟩
  rw [hgw] at hT2 ⊢
  by_cases hk4 : k < 4
  rotate_left
  · obtain rfl : k = 4 := by omega
    simp -implicitDefEqProofs [c41_l5, c41_k4, w9]
    refine ⟨L.length - (i + 1), by omega, i + 1, v2, rfl, rfl, by omega, ?_⟩
    have : skB (fun i => L.getD i 0) (i + 1) = skB (fun i => L.getD i 0) i ++ (le4 w).take 4 := by
      simp only [skB, hgw]
      rfl
    rw [this]
    exact hT2
  have hkk : (k : Int) < 4 := by omega
  have h8 : IntKind.i64.wrap (8 * (k : Int)) = ((8 * k : Nat) : Int) := by rw [wrap_i64 (by omega) (by omega)]; omega
  have hsr := shr_32 w (8 * k) (by omega)
  have hc8 : IntKind.u8.wrap (un (w >>> (8 * k))) = ((bt w k).toNat : Int) := by
    have := wrap_u8n (w >>> (8 * k)).toNat
    simp only [un] at this ⊢
    rw [this]
    simp [bt]
  have hle : (le4 w).take (k + 1) = (le4 w).take k ++ [bt w k] := by
    match k, hk4 with
    | 0, _ | 1, _ | 2, _ | 3, _ => rfl
  have hln := skB_len (fun i => L.getD i 0) i
  have hlt4 : (byteRows (skB (fun i => L.getD i 0) i ++ (le4 w).take k)).length ≤ 4 * i + 4 := by
    rw [byteRows_len, List.length_append, List.length_take, hln]
    omega
  obtain ⟨v3, s3, hap, hT3, ho3⟩ := hT2.push (bytes := 1) (by decide) (byteRows_fit _) (y := [.int .u8 (bt w k).toNat]) rfl (by have := hlt4; omega) (by have := hlt4; omega)
  rw [show byteRows (skB (fun i => L.getD i 0) i ++ (le4 w).take k) ++ [[.int .u8 (bt w k).toNat]] = byteRows (skB (fun i => L.getD i 0) i ++ (le4 w).take (k + 1)) by rw [hle, ← List.append_assoc, byteRows_app _ [bt w k]]; rfl] at hT3
  obtain ⟨k8, hk8⟩ : ∃ k8, 8 * k = k8 := ⟨_, rfl⟩
  rw [hk8] at h8 hsr hc8
  clear hk4
  simp -implicitDefEqProofs [hkk, c41_l5, c41_k4, c41_k3, c41_k2, c41_k1, h8, hsr, hc8, repl, rowsOf, frzV]
  refine i_app_f (v := v3) (s := s3) ?_ ?_
  · simp -implicitDefEqProofs [V.rows]
    exact hap none
  simp -implicitDefEqProofs [wrap_i64 (n := (k : Int) + 1) (by omega) (by omega)]
  exact ⟨4 - (k + 1), by omega, k + 1, v3, by rw [hgw]; rfl, rfl, by omega, by rw [hgw]; exact hT3⟩
theorem s_bytesOfR {σ : St} {y : Nat} {v : V} {L : List W32} (h : SkR σ y v L) (hn : L.length ≤ 1000) : Dn.Call Γ cx .rd 18 [.ref y 0] σ fun v _ => ∃ d, v = .d d ∧ LV (.d d) (byteRows (bL L)) := by
  refine Dn.Call.body (fc := c18) rfl ?_
  simp -implicitDefEqProofs [c18, c18_k2, eqV, V.isNil, Opd.isC, c18_k1, c18_k0, nilCheckV, h.o]
  refine use_rd' (s_bytesR h.r hn) fun v s ⟨d, hv, hd⟩ => ?_
  subst hv
  simp -implicitDefEqProofs
  exact ⟨⟨fun i hi => rfl, fun t k ht => ht⟩, hd⟩
theorem conv_bytes {σ : St} {d : D} {l : List UInt8} (h : LV (.d d) (byteRows l)) : evalConv σ .bytesStr (.d d) = some (.d (.str l)) := by
  simp only [evalConv, h.rows σ, rowBytes_byteRows]

/-! ### alive -/
theorem Valid.sorted_unique {L T T' : List W32} (h : Valid L T) (h' : Valid L T') (s : T.Pairwise fun a b => un a ≤ un b) (s' : T'.Pairwise fun a b => un a ≤ un b) : T = T' :=
  List.Perm.eq_of_pairwise (le := fun a b => un a ≤ un b) (fun a b _ _ h1 h2 => by rw [← wof_un a, ← wof_un b, show un a = un b by omega]) s s' (h.unique h')
theorem alive_valid : Valid (fnL 2 (osum [1#32, 2#32])) [1#32, 2#32] := ⟨by decide, by decide, by rw [fnL_len]; simp, fun k hk => by
  rw [fnL_len] at hk
  rw [fnL_co _ hk]⟩
theorem alive_bytes : bL (fnL 2 (osum [1#32, 2#32])) = [3, 0, 0, 0, 9, 0, 0, 0] := by decide +kernel
theorem s_alive : Dn.Call Γ cx .val 9 [] St.empty fun v _ => v = B true := by
  refine Dn.Call.body (fc := c9) rfl ?_
  have hids : [1#32, 2#32].map un = [1, 2] := rfl
  have hur : uRows [1, 2] = [[.int .u32 1], [.int .u32 2]] := rfl
  simp -implicitDefEqProofs [c9, c9_k4, isObj, repl, rowsOf, frzV]
  refine use_raw (s_skNew (n := 2) (ids := [1, 2]) (by omega) (by omega) (v := .fl [[.int .u32 1], [.int .u32 2]]) (.fl _) (by simp) (by simp) (by simp)) fun w s ⟨hw, hSk, hf, ht⟩ => ?_
  subst hw
  rw [← hids, acc_osum] at hSk
  have hR := hSk.toR (by omega)
  simp at hR
  simp -implicitDefEqProofs [c9_k3, eqV, V.isNil, Opd.isC, c9_k2, c9_k1]
  refine use_raw (s_Decode hR (by rw [fnL_len]; omega) (by rw [fnL_len]; omega)) fun w s2 ⟨hd, hf2, ht2⟩ => ?_
  have hR2 := hR.fr hf2
  rcases hd with ⟨-, h1⟩ | ⟨d, T, rfl, h1, h2, h3⟩
  · exact absurd alive_valid (h1 _)
  have hT := h2.sorted_unique alive_valid h3 (by decide)
  subst hT
  have hw := s_WordsW (X := [1#32, 2#32]) (Y := [1#32, 2#32]) (y := .list [[.int .u32 1], [.int .u32 2]]) h1 (.list _) (by simp) (by simp)
  simp at hw
  simp -implicitDefEqProofs [c9_k0, eqV, V.isNil, Opd.isC, isObj, repl, rowsOf, frzV]
  refine use_fn (ds := [.d d, .d (.list [[.int .u32 1], [.int .u32 2]])]) rfl hw rfl ?_
  simp -implicitDefEqProofs
  refine use_rd' (s_bytesOfR hR2 (by rw [fnL_len]; omega)) fun w s3 ⟨x, hw, hx⟩ => ?_
  subst hw
  rw [alive_bytes] at hx
  have hcv := fun σ => conv_bytes (σ := σ) hx
  simp -implicitDefEqProofs [-evalConv, hcv, strBin]

/-! ### With -/
def zipX (A B : List W32) : List W32 := fnL (min A.length B.length) fun k => A.getD k 0 ^^^ B.getD k 0
theorem zipX_len (A B : List W32) : (zipX A B).length = min A.length B.length := fnL_len _ _
/-- Zipped up to a place, noughts behind it. -/
def zipTo (A B : List W32) (n i : Nat) : List W32 := fnL n fun k => if k < i then A.getD k 0 ^^^ B.getD k 0 else 0
theorem zipTo_set {A B : List W32} {n i : Nat} (hi : i < n) : (zipTo A B n i).set i (A.getD i 0 ^^^ B.getD i 0) = zipTo A B n (i + 1) := by
  have l1 : (zipTo A B n i).length = n := fnL_len _ _
  refine Gf.list_ext_co (by rw [List.length_set, l1]; exact (fnL_len _ _).symm) fun k hk => ?_
  rw [List.length_set, l1] at hk
  rw [getD_set (by omega)]
  unfold zipTo
  rw [fnL_co _ hk, fnL_co _ hk]
  by_cases h1 : k = i
  · subst h1; rw [if_pos rfl, if_pos (by omega)]
  · rw [if_neg h1]
    by_cases h2 : k < i
    · rw [if_pos h2, if_pos (by omega)]
    · rw [if_neg h2, if_neg (by omega)]
theorem minI2 (a b : Nat) : minAll [I a, I b] = some (I (min a b : Nat)) := by
  rw [minII]
  congr 3
  split <;> omega
def InvWith (σ : St) (a b : Nat) (A B : List W32) (r n : Nat) (m : Nat) (e : Env) (s : St) : Prop := ∃ i : Nat, e = [(0, .ref a 0), (1, .ref b 0), (6, .sl r 0 n 1), (28, I n), (29, I i)] ∧ m = n - i ∧ i ≤ n ∧ New σ s (.sl r 0 n 1) (zipTo A B n i)
theorem s_With {σ : St} {a b : Nat} {va vb : V} {A B : List W32} (ha : SkR σ a va A) (hb : SkR σ b vb B) (lA : A.length ≤ 100) (lB : B.length ≤ 100) : Dn.Call Γ cx .raw 12 [.ref a 0, .ref b 0] σ fun w s => ∃ y v, w = .tup [.ref y 0, .d .nili] ∧ SkR s y v (zipX A B) ∧ Fr [] σ s ∧ s.toks = σ.toks := by
  refine Dn.Call.body (fc := c12) rfl ?_
  have hlA := fun σ => ha.r.len σ
  have hlB := fun σ => hb.r.len σ
  have hmn := minI2 A.length B.length
  obtain ⟨n, hn⟩ : ∃ n, min A.length B.length = n := ⟨_, rfl⟩
  rw [hn] at hmn
  have hal := (List.getElem?_eq_some_iff.1 ha.o).1
  have hbl := (List.getElem?_eq_some_iff.1 hb.o).1
  simp -implicitDefEqProofs [c12, c12_k10, eqV, V.isNil, Opd.isC, c12_k9, c12_k8]
  refine w_drwX (fun _ => .val) [] (by decide +kernel) ?_
  have hoa : (σ.room 1).objs[a]? = some (.cells [va]) := room_at ha.o
  have hob : (σ.room 1).objs[b]? = some (.cells [vb]) := room_at hb.o
  have hrp : (σ.room 1).objs[σ.objs.length]? = some .free := by simp [St.room]
  have hset : ∀ o, (σ.room 1).objs.set σ.objs.length o = σ.objs ++ [o] := fun o => by simp [St.room]
  have hrt : (σ.room 1).toks = σ.toks := rfl
  obtain ⟨sR, hsR⟩ : ∃ sR, σ.room 1 = sR := ⟨_, rfl⟩
  rw [hsR] at hoa hob hrp hset hrt
  rw [hsR]
  simp -implicitDefEqProofs [nilCheckV, hoa, hob, hlA, hlB, hmn]
  refine t_app_f (v := .sl σ.objs.length 0 n 1) (s := ⟨σ.objs ++ [.cells (wV (List.replicate n 0))], σ.toks⟩) ?_ ?_
  · have b1 : (n : Int) * 4 ≤ 140737488355328 := by omega
    have b2 : (n : Int) ≤ 9223372036854775807 := by omega
    simp [evalE, Opd.ev, Env.get, b1, b2, repl_wV, Dn.newObj, St.place, St.spot, hrp, St.setObj, hset, hrt]
  clear hoa hob hrp hset hrt hsR
  simp -implicitDefEqProofs [c12_k7, lenT, Dn.lenV, c12_k6]
  have hz0 : zipTo A B n 0 = List.replicate n 0 := by
    refine Gf.list_ext_co (by rw [List.length_replicate]; exact fnL_len _ _) fun k hk => ?_
    unfold zipTo at hk ⊢
    rw [fnL_len] at hk
    rw [fnL_co _ hk, if_neg (by omega), List.getD_eq_getElem?_getD, List.getElem?_replicate, if_pos hk]
    rfl
  have h00 : New σ ⟨σ.objs ++ [.cells (wV (List.replicate n 0))], σ.toks⟩ (.sl σ.objs.length 0 n 1) (zipTo A B n 0) := by
    rw [hz0]
    refine ⟨?_, Fr.push1 _ _, fun r off n sz e => by cases e; exact Nat.le_refl _, rfl⟩
    have : Ob ⟨σ.objs ++ [.cells (wV (List.replicate n 0))], σ.toks⟩ (.sl σ.objs.length 0 (List.replicate n (0 : W32)).length 1) (List.replicate n 0) := .sl (by simp)
    rwa [List.length_replicate] at this
  refine wloopI (InvWith σ a b A B σ.objs.length n) (m := n) ⟨0, rfl, rfl, by omega, h00⟩ ?_
  rintro m e s ⟨i, rfl, rfl, hi, hN⟩
  have hA := ha.fr hN.fr
  have hB := hb.fr hN.fr
  rcases hin : decide ((i : Int) < n) with _ | _
  · have hlt : ¬ (i : Int) < n := of_decide_eq_false hin
    obtain rfl : i = n := by omega
    have hz : zipTo A B i i = zipX A B := by
      unfold zipX zipTo
      rw [hn]
      refine Gf.list_ext_co (by rw [fnL_len, fnL_len]) fun k hk => ?_
      rw [fnL_len] at hk
      rw [fnL_co _ hk, fnL_co _ hk, if_pos hk]
    rw [hz] at hN
    simp -implicitDefEqProofs [hlt, c12_l5, c12_k4, c12_k0]
    have hlS := hN.ob.lt rfl
    exact ⟨⟨.sl σ.objs.length 0 i 1, by simp, hN.ob.rd.fr (Fr.push1 _ _), fun r off n sz e => by cases e; omega⟩, hN.fr.trans (Fr.push1 _ _), hN.tk⟩
  have hlt : (i : Int) < n := of_decide_eq_true hin
  have hi2 : i < n := by omega
  obtain ⟨x, hx⟩ : ∃ x, A[i]? = some x := ⟨_, List.getElem?_eq_getElem (by omega)⟩
  obtain ⟨z, hz⟩ : ∃ z, B[i]? = some z := ⟨_, List.getElem?_eq_getElem (by omega)⟩
  obtain ⟨adx, x1, x2⟩ := hA.r.at hx
  obtain ⟨adz, z1, z2⟩ := hB.r.at hz
  have hl := hN.obj.2
  have hst := zipTo_set (A := A) (B := B) hi2
  rw [getD_at hx, getD_at hz] at hst
  have hset := hN.set (i := i) hi2 hl (x ^^^ z)
  have hsv := wV_set (L := zipTo A B n i) (i := i) (by omega) (x ^^^ z)
  rw [hst] at hset hsv
  have hob := hN.obj.1
  have hlV := wV_len (zipTo A B n i)
  rw [hl] at hlV
  have ia := fun s => iaddr_sl s (q := σ.objs.length) (n := n) (i := i) hi2
  have w9 : IntKind.i64.wrap ((i : Int) + 1) = ((i + 1 : Nat) : Int) := by rw [wrap_i64 (by omega) (by omega)]; omega
  have hi1 : i + 1 ≤ n := by omega
  have la : loadAt s false 1 (.ref a 0) = some va := by simp [loadAt, hA.o]
  have lb : loadAt s false 1 (.ref b 0) = some vb := by simp [loadAt, hB.o]
  generalize wV (zipTo A B n i) = cs at *
  simp -implicitDefEqProofs [hlt, c12_l5, c12_k4, c12_k3, c12_k2, c12_k1]
  refine w_drwX (fun _ => .val) [] (by decide +kernel) ?_
  simp only [room_zero]
  simp -implicitDefEqProofs [-loadAt, -splice, nilCheckV, la, lb, x1, x2, z1, z2, xor_u32, ia, hob, hlV, hi1, hsv, w9]
  exact ⟨n - (i + 1), by omega, i + 1, rfl, rfl, by omega, hset⟩

/-! ### sorted -/
theorem lsum_app (f : W32 → W32) : ∀ A B : List W32, lsum (A ++ B) f = lsum A f ^^^ lsum B f
  | [], B => (Gf.zx _).symm
  | a :: A, B => by simp only [List.cons_append, lsum]; rw [lsum_app f A B, BitVec.xor_assoc]
abbrev ltW (a b : W32) : Prop := un a < un b
/-- A rising list with one more of an element. -/
structure Tog (l : List W32) (x : W32) (k : Nat) : Prop where
  s : l.Pairwise ltW
  kl : k ≤ l.length
  lo : ∀ i y, i < k → l[i]? = some y → un y < un x
  hi : ∀ y, l[k]? = some y → ¬ un y < un x
theorem split_at {l : List W32} {k : Nat} {y : W32} (h : l[k]? = some y) : l = l.take k ++ y :: l.drop (k + 1) := by
  have hk := (List.getElem?_eq_some_iff.1 h).1
  have hg := (List.getElem?_eq_some_iff.1 h).2
  rw [← hg, List.getElem_cons_drop, List.take_append_drop]
theorem Tog.del {l : List W32} {x : W32} {k : Nat} (h : Tog l x k) (hx : l[k]? = some x) : (l.take k ++ l.drop (k + 1)).Pairwise ltW ∧ ∀ f, lsum (l.take k ++ l.drop (k + 1)) f = lsum l f ^^^ f x := by
  have hsp := split_at hx
  refine ⟨h.s.sublist ?_, fun f => ?_⟩
  · conv => rhs; rw [hsp]
    exact List.Sublist.append_left (List.sublist_cons_self _ _) _
  · conv => rhs; rw [hsp]
    rw [lsum_app, lsum_app]
    simp only [lsum]
    generalize lsum (l.take k) f = a
    generalize lsum (l.drop (k + 1)) f = b
    rw [BitVec.xor_comm (f x) b, ← BitVec.xor_assoc, BitVec.xor_assoc _ (f x), Gf.xs, Gf.x0]
theorem Tog.ins {l : List W32} {x : W32} {k : Nat} (h : Tog l x k) (hx : l[k]? ≠ some x) : (l.take k ++ x :: l.drop k).Pairwise ltW ∧ ∀ f, lsum (l.take k ++ x :: l.drop k) f = lsum l f ^^^ f x := by
  refine ⟨?_, fun f => ?_⟩
  · have hs := h.s
    rw [← List.take_append_drop k l, List.pairwise_append] at hs
    obtain ⟨h1, h2, h3⟩ := hs
    rw [List.pairwise_append, List.pairwise_cons]
    have hlo : ∀ a ∈ l.take k, ltW a x := fun a ha => by
      obtain ⟨i, hi⟩ := List.getElem?_of_mem ha
      have hik : i < k := by have := (List.getElem?_eq_some_iff.1 hi).1; simp at this; omega
      rw [List.getElem?_take_of_lt hik] at hi
      exact h.lo i a hik hi
    have hhi : ∀ b ∈ l.drop k, ltW x b := fun b hb => by
      cases hd : l.drop k with
      | nil => rw [hd] at hb; cases hb
      | cons y t =>
        have hy : l[k]? = some y := by
          have := congrArg (fun l => l[0]?) hd
          simp only [List.getElem?_drop] at this
          simpa using this
        have h4 := h.hi y hy
        have h5 : un y ≠ un x := fun e => hx (by rw [hy, ← wof_un y, e, wof_un])
        rw [hd] at hb h2
        rw [List.pairwise_cons] at h2
        rcases List.mem_cons.1 hb with rfl | hb
        · show un x < un b; omega
        · have : un y < un b := h2.1 b hb
          show un x < un b; omega
    exact ⟨h1, ⟨hhi, h2⟩, fun a ha b hb => by
      rcases List.mem_cons.1 hb with rfl | hb
      · exact hlo a ha
      · exact h3 a ha b hb⟩
  · have : lsum l f = lsum (l.take k) f ^^^ lsum (l.drop k) f := by rw [← lsum_app, List.take_append_drop]
    rw [this, lsum_app]
    simp only [lsum]
    rw [BitVec.xor_comm (f x), ← BitVec.xor_assoc]

structure OutO (s : St) (r : Nat) (l : List W32) : Prop where
  o : ∃ cs, s.objs[r]? = some (.cells cs) ∧ l.length ≤ cs.length ∧ cs.take l.length = wV l ∧ cs ≠ []
def OutS (s : St) (v : V) (l : List W32) : Prop := (v = .fl [] ∧ l = []) ∨ ∃ r, v = .sl r 0 l.length 1 ∧ OutO s r l
theorem OutS.rd {s : St} {v : V} {l : List W32} (h : OutS s v l) : Rd s v l := by
  rcases h with ⟨rfl, rfl⟩ | ⟨r, rfl, cs, h1, h2, h3, -⟩
  · exact .lv (.fl [])
  · exact .sl h1 (by omega) (by rw [List.drop_zero]; exact h3) rfl
structure SorS (L l : List W32) (i : Nat) : Prop where
  p : l.Pairwise ltW
  m : ∀ x ∈ l, x ∈ L
  n : l.length ≤ i
  f : ∀ f, lsum l f = lsum (L.take i) f
theorem SorS.next {L l l' : List W32} {i : Nat} {x : W32} (h : SorS L l i) (hx : L[i]? = some x) (hp : l'.Pairwise ltW) (hm : ∀ y ∈ l', y = x ∨ y ∈ l) (hn : l'.length ≤ l.length + 1) (hf : ∀ f, lsum l' f = lsum l f ^^^ f x) : SorS L l' (i + 1) := by
  refine ⟨hp, fun y hy => (hm y hy).elim (fun e => e ▸ List.mem_of_getElem? hx) (h.m y), by have := h.n; omega, fun f => ?_⟩
  rw [hf, h.f, List.take_add_one, hx, Option.toList_some, lsum_app]
  simp only [lsum]
  rw [Gf.x0]
def InvSor (x : D) (L : List W32) (m : Nat) (e : Env) (s : St) : Prop := ∃ (i : Nat) (v : V) (l : List W32), e = [(3, v), (8, .d x), (9, I L.length), (10, I i)] ∧ m = L.length - i ∧ i ≤ L.length ∧ OutS s v l ∧ SorS L l i
def InvSor2 (x : D) (L : List W32) (i : Nat) (v : V) (l : List W32) (w : W32) (s0 : St) (m : Nat) (e : Env) (s : St) : Prop := ∃ k : Nat, e = [(3, v), (5, Xw w), (6, I k), (8, .d x), (9, I L.length), (10, I i)] ∧ m = l.length - k ∧ k ≤ l.length ∧ s = s0 ∧ ∀ j y, j < k → l[j]? = some y → un y < un w

/-- The rest of a round, once the place is found: an element more. -/
theorem sor_ins {x : D} {L : List W32} {i k : Nat} {v : V} {l : List W32} {w : W32} {s : St} {Q : PostC} (hO : OutS s v l) (hk : k ≤ l.length) (hl : l.length ≤ 1000)
    (hQ : ∀ r s', OutO s' r (l.take k ++ w :: l.drop k) → Q .normal [(3, .sl r 0 (l.length + 1) 1), (8, .d x), (9, I L.length), (10, I i)] s') :
    wcode (Dn.Call Γ cx) cx c14_k3 [(3, v), (5, Xw w), (6, I k), (8, .d x), (9, I L.length), (10, I i), (39, B false)] s Q := by
  obtain ⟨s1, r, ha, ho⟩ : ∃ s1 r, appendM s none 1 4 v [[.int .u32 0]] = some (.sl r 0 (l.length + 1) 1, s1) ∧ s1.objs[r]? = some (.cells (wV (l ++ [0]))) := by
    rcases hO with ⟨rfl, rfl⟩ | ⟨r, rfl, cs, h1, h2, h3, h4⟩
    · refine ⟨⟨s.objs ++ [.cells [X 0]], s.toks⟩, s.objs.length, ?_, ?_⟩
      · have : appendM s none 1 4 (.fl []) [[.int .u32 0]] = Dn.newObj s none (.cells [X 0]) (fun r => .sl r 0 1 1) := by
          simp [appendM, fitR]
        rw [this, newObjN]
        rfl
      · simp [wV]
        rfl
    · refine ⟨⟨s.objs.set r .dead ++ [.cells (wV (l ++ [0]))], s.toks⟩, s.objs.length, ?_, ?_⟩
      · have h5 : 0 < cs.length := List.length_pos_iff.2 h4
        have h6 : (l.length + 1) * 4 ≤ 140737488355328 := by omega
        have h7 : l.length + 1 ≤ 9223372036854775807 := by omega
        have : appendM s none 1 4 (.sl r 0 l.length 1) [[.int .u32 0]] = Dn.newObj (s.setObj r .dead) none (.cells (wV (l ++ [0]))) (fun r => .sl r 0 (l.length + 1) 1) := by
          simp [appendM, fitR, h1, h2, h5, h6, h7, h3]
          unfold wV
          rw [List.map_append]
          rfl
        rw [this, newObjN]
        simp [St.setObj]
      · simp
  simp -implicitDefEqProofs [c14_k3, isObj, repl, rowsOf, frzV]
  refine i_app_m (v := .sl r 0 (l.length + 1) 1) (s := s1) ?_ ?_
  · simp [evalM, Opd.ev, Env.get, V.rows]
    exact ha
  simp -implicitDefEqProofs [c14_k2]
  refine w_drwX (fun _ => .val) [] (by decide +kernel) ?_
  simp only [room_zero]
  have hlv : ∀ σ, Dn.lenV σ (.sl r 0 (l.length + 1) 1) = some (l.length + 1) := fun _ => rfl
  obtain ⟨k1, hk1⟩ : ∃ k1, k + 1 = k1 := ⟨_, rfl⟩
  have w1 : IntKind.i64.wrap ((k : Int) + 1) = (k1 : Int) := by rw [wrap_i64 (by omega) (by omega)]; omega
  have sx1 : ∀ σ, sliceX σ 1 (.sl r 0 (l.length + 1) 1) (some (I (k1 : Int))) none none = some (.sl r k1 (l.length - k) 1) := fun σ => by
    have h1 : l.length + 1 - k1 = l.length - k := by omega
    have h2 : (k1 : Int) ≤ (l.length : Int) + 1 := by omega
    simp [sliceX, hlv, boundV, asIdx, sliceV, h1, h2]
  have sx2 : ∀ σ, sliceX σ 1 (.sl r 0 (l.length + 1) 1) (some (I (k : Int))) none none = some (.sl r k (l.length + 1 - k) 1) := fun σ => by
    have h2 : (k : Int) ≤ (l.length : Int) + 1 := by omega
    simp [sliceX, hlv, boundV, asIdx, sliceV, h2]
  obtain ⟨Z, hZ⟩ : ∃ Z, (l ++ [(0 : W32)]).drop k = Z := ⟨_, rfl⟩
  obtain ⟨M, hM⟩ : ∃ M, (l ++ [(0 : W32)]).take k1 ++ l.drop k = M := ⟨_, rfl⟩
  have hZl : Z.length = l.length + 1 - k := by rw [← hZ]; simp
  have hrow : V.rows s1 (.sl r k (l.length + 1 - k) 1) = some (pR Z) := by
    refine (Rd.sl ho ?_ ?_ hZl : Rd s1 (.sl r k (l.length + 1 - k) 1) Z).rows
    · rw [wV_len]; simp; omega
    · unfold wV
      rw [← List.map_drop, ← List.map_take, hZ, List.take_of_length_le (by omega)]
  have hmid : splice (wV (l ++ [0])) k1 (wV (Z.take (l.length - k))) = wV M := by
    have e1 : Z.take (l.length - k) = l.drop k := by
      rw [← hZ, List.drop_append_of_le_length hk, List.take_append_of_le_length (by simp), List.take_of_length_le (by simp)]
    have e2 : (wV (l ++ [(0 : W32)])).length = l.length + 1 := by rw [wV_len]; simp
    have e3 : (wV (l.drop k)).length = l.length - k := by rw [wV_len]; simp
    rw [e1, ← hM]
    unfold splice
    rw [List.drop_of_length_le (l := wV (l ++ [(0 : W32)])) (by omega), List.append_nil]
    unfold wV
    rw [← List.map_take, ← List.map_append]
  have hcopy : copyV s1 1 (.sl r k1 (l.length - k) 1) (pR Z) = some (I ((min Z.length (l.length - k) : Nat) : Int), ⟨s1.objs.set r (.cells (wV M)), s1.toks⟩) := by
    have hfit : fitR 1 (pR Z) = true := fitR_iff.2 (pR_fit _)
    unfold copyV
    rw [hfit]
    simp only [Bool.true_eq_false, if_false, ho]
    rw [if_pos ⟨trivial, by omega⟩, if_pos (by rw [wV_len]; simp; omega), pR_take, pR_flat, hmid, pR_len]
    rfl
  simp -implicitDefEqProofs [w1, sx1, sx2, hrow, hcopy]
  obtain ⟨s2, hs2⟩ : ∃ s2 : St, (⟨s1.objs.set r (.cells (wV M)), s1.toks⟩ : St) = s2 := ⟨_, rfl⟩
  have hrl := (List.getElem?_eq_some_iff.1 ho).1
  have ho2 : s2.objs[r]? = some (.cells (wV M)) := by rw [← hs2]; simp [hrl]
  have hrl2 := (List.getElem?_eq_some_iff.1 ho2).1
  rw [hs2]
  have ia := fun σ => iaddr_sl σ (q := r) (n := l.length + 1) (i := k) (by omega)
  have hln : M.length = l.length + 1 := by rw [← hM]; simp; omega
  have hset := wV_set (L := M) (i := k) (by omega) w
  have hfin : M.set k w = l.take k ++ w :: l.drop k := by
    rw [← hM, ← hk1]
    have e1 : ((l ++ [(0 : W32)]).take (k + 1)).length = k + 1 := by simp; omega
    rw [List.set_append_left _ _ (by omega)]
    obtain ⟨z, hz⟩ : ∃ z, (l ++ [(0 : W32)])[k]? = some z := ⟨_, List.getElem?_eq_getElem (by simp; omega)⟩
    rw [List.take_add_one, hz, Option.toList_some, List.set_append_right _ _ (by simp; omega), List.length_take, Nat.min_eq_left (by simp; omega), Nat.sub_self, List.set_cons_zero, List.append_assoc, List.take_append_of_le_length hk]
    rfl
  rw [hfin] at hset
  have hlV := wV_len M
  rw [hln] at hlV
  generalize wV M = cs at *
  have hk2 : k ≤ l.length := hk
  have hk3 : k + 1 ≤ l.length + 1 := by omega
  simp -implicitDefEqProofs [-splice, c14_k1, ia, ho2, hlV, hk3, hk2, hset]
  have hl3 : (l.take k ++ w :: l.drop k).length = l.length + 1 := by simp; omega
  exact hQ r _ ⟨_, by simp [hrl2], by rw [wV_len]; exact Nat.le_refl _, List.take_of_length_le (by rw [wV_len]; exact Nat.le_refl _), fun e => by have := congrArg List.length e; rw [wV_len, hl3] at this; simp at this⟩

theorem sor_del {x : D} {L : List W32} {i k r : Nat} {l : List W32} {w : W32} {s : St} {Q : PostC} (hO : OutO s r l) (hk : l[k]? = some w) (hl : l.length ≤ 1000)
    (hQ : ∀ s', OutO s' r (l.take k ++ l.drop (k + 1)) → Q (.exit 1) [(3, .sl r 0 (l.length - 1) 1), (8, .d x), (9, I L.length), (10, I i)] s') :
    wcode (Dn.Call Γ cx) cx c14_k4 [(3, .sl r 0 l.length 1), (5, Xw w), (6, I k), (8, .d x), (9, I L.length), (10, I i), (39, B true)] s Q := by
  obtain ⟨cs, h1, h2, h3, h4⟩ := hO
  have hkl := (List.getElem?_eq_some_iff.1 hk).1
  obtain ⟨k1, hk1⟩ : ∃ k1, k + 1 = k1 := ⟨_, rfl⟩
  have hlv : ∀ σ, Dn.lenV σ (.sl r 0 l.length 1) = some l.length := fun _ => rfl
  have w1 : IntKind.i64.wrap ((k : Int) + 1) = (k1 : Int) := by rw [wrap_i64 (by omega) (by omega)]; omega
  have sx1 : ∀ σ, sliceX σ 1 (.sl r 0 l.length 1) none (some (I (k : Int))) none = some (.sl r 0 k 1) := fun σ => by
    have e2 : k ≤ l.length := by omega
    simp [sliceX, hlv, boundV, asIdx, sliceV, e2]
  have sx2 : ∀ σ, sliceX σ 1 (.sl r 0 l.length 1) (some (I (k1 : Int))) none none = some (.sl r k1 (l.length - k1) 1) := fun σ => by
    have e2 : (k1 : Int) ≤ (l.length : Int) := by omega
    simp [sliceX, hlv, boundV, asIdx, sliceV, e2]
  simp -implicitDefEqProofs [c14_k4]
  refine w_drwX (fun _ => .val) [] (by decide +kernel) ?_
  have hoR : (s.room 1).objs[r]? = some (.cells cs) := room_at h1
  have hrl : r < (s.room 1).objs.length := (List.getElem?_eq_some_iff.1 hoR).1
  generalize s.room 1 = sR at *
  obtain ⟨Z, hZ⟩ : ∃ Z, l.drop k1 = Z := ⟨_, rfl⟩
  have hZl : Z.length = l.length - k1 := by rw [← hZ]; simp
  have hdr : (cs.drop k1).take (l.length - k1) = wV Z := by
    have e1 := congrArg (List.drop k1) h3
    rw [List.drop_take] at e1
    rw [e1, ← hZ]
    unfold wV
    rw [List.map_drop]
  have hrow : V.rows sR (.sl r k1 (l.length - k1) 1) = some (pR Z) := (Rd.sl hoR (by omega) hdr hZl : Rd sR (.sl r k1 (l.length - k1) 1) Z).rows
  have happ : ∀ tg, appendV sR tg 1 4 (.sl r 0 k 1) (pR Z) = some (.sl r 0 (k + Z.length) 1, ⟨sR.objs.set r (.cells (splice cs k (wV Z))), sR.toks⟩) := fun tg => by
    have hfit : fitR 1 (pR Z) = true := fitR_iff.2 (pR_fit _)
    unfold appendV
    rw [hfit]
    simp only [Bool.true_eq_false, if_false, hoR, pR_len, pR_flat, Nat.mul_one, Nat.zero_add]
    rw [if_pos ⟨trivial, by omega⟩, if_pos (by omega)]
    rfl
  have hkz : k + Z.length = l.length - 1 := by omega
  rw [hkz] at happ
  simp -implicitDefEqProofs [w1, sx1, sx2]
  refine t_app_f (v := .sl r 0 (l.length - 1) 1) (s := ⟨sR.objs.set r (.cells (splice cs k (wV Z))), sR.toks⟩) ?_ ?_
  · simp [evalE, -splice, Opd.ev, Env.get, hrow]
    exact happ _
  simp -implicitDefEqProofs [-splice]
  refine hQ _ ⟨splice cs k (wV Z), by simp [hrl], ?_, ?_, fun e => ?_⟩
  · have : (splice cs k (wV Z)).length = cs.length := by unfold splice; simp [wV_len]; omega
    rw [this]
    simp
    omega
  · have hZ' : l.drop (k + 1) = Z := by rw [hk1]; exact hZ
    have e3 : (cs.take k) = wV (l.take k) := by
      have e1 := congrArg (List.take k) h3
      rw [List.take_take, Nat.min_eq_left (by omega)] at e1
      rw [e1]
      unfold wV
      rw [List.map_take]
    rw [hZ']
    unfold splice
    rw [e3, List.take_append_of_le_length (by simp [wV_len])]
    have e4 : wV (l.take k) ++ wV Z = wV (l.take k ++ Z) := by unfold wV; rw [List.map_append]
    rw [e4, List.take_of_length_le (by rw [wV_len]; exact Nat.le_refl _)]
  · have : (splice cs k (wV Z)).length = cs.length := by unfold splice; simp [wV_len]; omega
    rw [e] at this
    exact h4 (List.eq_nil_of_length_eq_zero this.symm)

theorem s_sorted {x : D} {L : List W32} (hx : PL x L) (hl : L.length ≤ 200) : Dn.Call Γ cx .val 14 [.d x] St.empty fun v _ => ∃ d T, v = .d d ∧ PL d T ∧ T.Pairwise ltW ∧ (∀ y ∈ T, y ∈ L) ∧ T.length ≤ L.length ∧ ∀ f, lsum T f = lsum L f := by
  refine Dn.Call.body (fc := c14) rfl ?_
  have hlx : ∀ σ, lenT σ .slice (.d x) = some L.length := fun σ => by rw [hx.len, pR_len]
  simp -implicitDefEqProofs [c14, c14_k17, isObj, repl, rowsOf, frzV, c14_k16, hlx, c14_k15]
  refine wloopI (InvSor x L) (m := L.length) ⟨0, .fl [], [], rfl, rfl, by omega, .inl ⟨rfl, rfl⟩, ⟨List.Pairwise.nil, by simp, by simp, fun f => rfl⟩⟩ ?_
  rintro m e s ⟨i, v, l, rfl, rfl, hi, hO, hS⟩
  have hln := hS.n
  rcases hin : decide ((i : Int) < L.length) with _ | _
  · have hlt : ¬ (i : Int) < L.length := of_decide_eq_false hin
    obtain rfl : i = L.length := by omega
    obtain ⟨d, b1, l1⟩ := hO.rd.byVal
    have hf := hS.f
    rw [List.take_length] at hf
    simp -implicitDefEqProofs [hlt, c14_l14, c14_k13, c14_k0, b1]
    exact ⟨l, l1, hS.p, hS.m, hS.n, hf⟩
  have hlt : (i : Int) < L.length := of_decide_eq_true hin
  obtain ⟨w, hw⟩ : ∃ w, L[i]? = some w := ⟨_, List.getElem?_eq_getElem (by omega)⟩
  have hia := fun σ => hx.iaddr σ (k := .i64) (sz := 1) (i := i) (pR_at hw) rfl
  have w9 : IntKind.i64.wrap ((i : Int) + 1) = ((i + 1 : Nat) : Int) := by rw [wrap_i64 (by omega) (by omega)]; omega
  have hlv := fun σ => hO.rd.len σ
  simp -implicitDefEqProofs [hlt, c14_l14, c14_k13, c14_k12, hia, c14_k11, c14_k10, c14_k9]
  refine wloopI (InvSor2 x L i v l w s) (m := l.length) ⟨0, rfl, rfl, by omega, rfl, fun j y hj => by omega⟩ ?_
  rintro m e s2 ⟨k, rfl, rfl, hk, rfl, hlo⟩
  by_cases hkl : k < l.length
  · obtain ⟨y, hy⟩ : ∃ y, l[k]? = some y := ⟨_, List.getElem?_eq_getElem hkl⟩
    have hklI : (k : Int) < l.length := by omega
    obtain ⟨ad, a1, a2⟩ := hO.rd.at hy
    have w8 : IntKind.i64.wrap ((k : Int) + 1) = ((k + 1 : Nat) : Int) := by rw [wrap_i64 (by omega) (by omega)]; omega
    by_cases hyw : un y < un w
    · simp -implicitDefEqProofs [-loadAt, c14_l8, hlv, hklI, hkl, a1, a2, hyw, c14_k7, c14_k6, w8]
      refine ⟨l.length - (k + 1), by omega, k + 1, rfl, rfl, by omega, rfl, fun j z hj hz => ?_⟩
      by_cases hjk : j = k
      · subst hjk
        rw [hy] at hz
        cases hz
        exact hyw
      · exact hlo j z (by omega) hz
    have hT : Tog l w k := ⟨hS.p, hk, hlo, fun z hz => by rw [hy] at hz; cases hz; exact hyw⟩
    by_cases hyeq : y = w
    · subst hyeq
      obtain ⟨p1, p2⟩ := hT.del hy
      rcases hO with ⟨rfl, rfl⟩ | ⟨r, rfl, hOo⟩
      · simp at hkl
      have a1' : iaddrV s2 1 (.sl r 0 l.length 1) (.d (.int .i64 k)) = some ad := a1
      simp -implicitDefEqProofs [-loadAt, c14_l8, hlv, hklI, hkl, a1', a2, c14_k7, c14_k5]
      refine sor_del hOo hy (by omega) fun s' ho => ?_
      simp -implicitDefEqProofs [w9]
      have hlen : (l.take k ++ l.drop (k + 1)).length = l.length - 1 := by simp; omega
      refine ⟨L.length - (i + 1), by omega, i + 1, _, l.take k ++ l.drop (k + 1), rfl, rfl, by omega, .inr ⟨r, by rw [hlen], ho⟩, hS.next hw p1 (fun z hz => .inr ?_) (by omega) p2⟩
      rcases List.mem_append.1 hz with h | h
      · exact List.mem_of_mem_take h
      · exact List.mem_of_mem_drop h
    · obtain ⟨p1, p2⟩ := hT.ins (by rw [hy]; exact fun e => hyeq (Option.some.inj e))
      have hu : ¬ un y = un w := fun e => hyeq (by rw [← wof_un y, e, wof_un])
      simp -implicitDefEqProofs [-loadAt, c14_l8, hlv, hklI, hkl, a1, a2, hyw, hu, c14_k7, c14_k5, c14_k4]
      refine sor_ins hO hk (by omega) fun r s' ho => ?_
      simp -implicitDefEqProofs [w9]
      have hlen : (l.take k ++ w :: l.drop k).length = l.length + 1 := by simp; omega
      refine ⟨L.length - (i + 1), by omega, i + 1, _, l.take k ++ w :: l.drop k, rfl, rfl, by omega, .inr ⟨r, by rw [hlen], ho⟩, hS.next hw p1 (fun z hz => ?_) (by omega) p2⟩
      rcases List.mem_append.1 hz with h | h
      · exact .inr (List.mem_of_mem_take h)
      · rcases List.mem_cons.1 h with h | h
        · exact .inl h
        · exact .inr (List.mem_of_mem_drop h)
  · obtain rfl : k = l.length := by omega
    have hT : Tog l w l.length := ⟨hS.p, hk, hlo, fun z hz => by rw [List.getElem?_eq_none (Nat.le_refl _)] at hz; cases hz⟩
    obtain ⟨p1, p2⟩ := hT.ins (by rw [List.getElem?_eq_none (Nat.le_refl _)]; exact fun e => by cases e)
    simp -implicitDefEqProofs [-loadAt, c14_l8, hlv, c14_k7, c14_k5, c14_k4]
    refine sor_ins hO hk (by omega) fun r s' ho => ?_
    simp -implicitDefEqProofs [w9]
    have hlen : (l.take l.length ++ w :: l.drop l.length).length = l.length + 1 := by simp
    refine ⟨L.length - (i + 1), by omega, i + 1, _, l.take l.length ++ w :: l.drop l.length, rfl, rfl, by omega, .inr ⟨r, by rw [hlen], ho⟩, hS.next hw p1 (fun z hz => ?_) (by omega) p2⟩
    rcases List.mem_append.1 hz with h | h
    · exact .inr (List.mem_of_mem_take h)
    · rcases List.mem_cons.1 h with h | h
      · exact .inl h
      · exact .inr (List.mem_of_mem_drop h)
end Go.Proofs.Ytmlkdfjojoophaa.T

namespace Go.Proofs.Ytmlkdfjojoophaa.T
open Go.Dn
set_option linter.unusedSimpArgs false
set_option linter.unusedVariables false

/-! ### lists of bytes -/
theorem lv_list {d : D} {rows : List (List D)} (h : LV (.d d) rows) (hne : rows ≠ []) : d = .list rows := by
  cases h with
  | nil => exact absurd rfl hne
  | list => rfl
theorem skB_ne (f : Nat → W32) {n : Nat} (h : 1 ≤ n) : byteRows (skB f n) ≠ [] := by
  intro e
  have := congrArg List.length e
  rw [byteRows_len, skB_len] at this
  simp at this
  omega

/-! ### arguments; New, whatever is asked -/
abbrev wordsK : Lk := .list [.int .u32]
theorem words_fit {d : D} (h : wordsK.fits d) : ∃ L : List W32, PL d L := by
  simp only [Lk.fits] at h
  rcases h with rfl | ⟨rows, rfl, -, hr⟩
  · exact ⟨[], .nil⟩
  · have : ∀ rows : List (List D), (∀ row ∈ rows, Lks [.int .u32] row) → ∃ L : List W32, rows = pR L := by
      intro rows
      induction rows with
      | nil => exact fun _ => ⟨[], rfl⟩
      | cons r rows ih =>
        intro h
        obtain ⟨L, rfl⟩ := ih fun row hr => h row (by simp [hr])
        have h0 := h r (by simp)
        simp only [Lks, Lk.fits] at h0
        obtain ⟨d, _, rfl, ⟨n, rfl, h1, h2⟩, rfl⟩ := h0
        have e1 : IntKind.u32.min = 0 := rfl
        have e2 : IntKind.u32.max = 4294967295 := rfl
        refine ⟨wof n :: L, ?_⟩
        simp only [pR, List.map_cons]
        rw [un_wof (by omega) (by omega)]
    obtain ⟨L, rfl⟩ := this rows hr
    exact ⟨L, .list _⟩
def badN (n : Int) (L : List W32) : Prop := n < 1 ∨ 40 < n ∨ (0 : W32) ∈ L
def newQ (σ : St) (n : Int) (L : List W32) : Post := fun w s => (badN n L ∧ w = .tup [.d .nilp, errV 1] ∨ ¬ badN n L ∧ ∃ y r, w = .tup [.ref y 0, .d .nili] ∧ Sk s y r n.toNat (osum L) ∧ y ≠ r) ∧ Fr [] σ s ∧ s.toks = σ.toks
theorem newQ_ex (σ : St) (n : Int) (L : List W32) : ∃ w s, newQ σ n L w s := by
  by_cases hb : badN n L
  · exact ⟨_, σ, .inl ⟨hb, rfl⟩, Fr.refl _ _, rfl⟩
  · refine ⟨.tup [.ref (σ.objs.length + 1) 0, .d .nili], ⟨σ.objs ++ [.cells (fnV n.toNat (osum L)), .cells [.sl σ.objs.length 0 n.toNat 1]], σ.toks⟩, .inr ⟨hb, _, σ.objs.length, rfl, ⟨by simp [List.getElem?_append], by simp⟩, by omega⟩, ⟨by simp, fun q _ hq => by simp only; rw [List.getElem?_append_left hq]⟩, rfl⟩
theorem s_newW {σ : St} {n : Int} {v : V} {L : List W32} (hv : LV v (pR L)) (hl : L.length ≤ 1000) : Dn.Call Γ cx .raw 11 [I n, v] σ (newQ σ n L) := by
  by_cases hn : n < 1 ∨ 40 < n
  · refine Dn.Call.mono (fun w s ⟨hw, hs⟩ => ?_) (s_skBad hn (v := v) hv.cells)
    subst hs
    exact ⟨.inl ⟨by unfold badN; omega, hw⟩, Fr.refl _ _, rfl⟩
  obtain ⟨k, rfl⟩ : ∃ k : Nat, n = (k : Int) := ⟨n.toNat, by omega⟩
  have hvI : LV v (uRows (L.map un)) := by rw [uRows_map]; exact hv
  by_cases hz : (0 : W32) ∈ L
  · exact Dn.Call.mono (fun w s ⟨hw, hf, ht⟩ => ⟨.inl ⟨.inr (.inr hz), hw⟩, hf, ht⟩) (s_skNewZ (by omega) (by omega) hvI ((un_zero_mem L).2 hz) (by simpa using hl))
  · refine Dn.Call.mono (fun w s ⟨hw, hS, hf, ht⟩ => ⟨.inr ⟨?_, _, _, hw, ?_, Nat.succ_ne_self _⟩, hf, ht⟩) (s_skNew (by omega) (by omega) hvI (un_bound L) (fun e => hz ((un_zero_mem L).1 e)) (by simpa using hl))
    · unfold badN
      rintro (h | h | h)
      · omega
      · omega
      · exact hz h
    · rw [acc_osum] at hS
      exact hS

/-! lists put together, by appends onto an empty one -/
theorem app2 {s : St} {dA dB : D} {A B : List W32} (hA : PL dA A) (hB : PL dB B) (lA : A.length ≤ 1000) (lB : B.length ≤ 1000) :
    ∃ v1 s1 v2 s2, (∀ tg, appendV s tg 1 4 (.fl []) (pR A) = some (v1, s1)) ∧ (∀ tg, appendV s1 tg 1 4 v1 (pR B) = some (v2, s2)) ∧ s1.objs = s.objs ∧ s2.objs = s.objs ∧ LV v2 (pR (A ++ B)) ∧ App s2 1 v2 (pR (A ++ B)) := by
  obtain ⟨v1, s1, h1, a1, o1, -, -⟩ := (App.fl [] : App s 1 (.fl []) []).push (bytes := 4) (by decide) (by simp) (pR_fit A) (by simp [pR_len]; omega) (by simp [pR_len]; omega)
  rw [List.nil_append] at a1
  obtain ⟨v2, s2, h2, a2, o2, -, -⟩ := a1.push (bytes := 4) (by decide) (pR_fit A) (pR_fit B) (by simp [pR_len]; omega) (by simp [pR_len]; omega)
  rw [← pR_app] at a2
  exact ⟨v1, s1, v2, s2, h1, h2, o1, o2.trans o1, a2.lv, a2⟩
end Go.Proofs.Ytmlkdfjojoophaa.T

namespace Go.Proofs.Ytmlkdfjojoophaa.T
open Go.Dn
attribute [local simp] body_eq globEnv GB List.map_nil List.map_cons List.append_nil w_rangeF i_next i_makeMap i_range i_update i_delete i_entry i_clone entryV cloneV q_rndA q_rndB_n q_rndB_e q_rndB_r setAll w_skip w_ops w_seq w_cond w_block w_exit w_ret q_then_n q_then_e q_then_r q_blk_n q_blk_e q_blk_r q_ops q_cont q_end_n q_end_r q_end_e q_loop_n q_loop_e q_loop_r i_nil i_p i_alloc i_box i_store i_copy i_clear i_call i_callv i_when t_nil t_p t_call t_alloc t_box t_store kept_nil t_copy t_clear q_tcont gsel List.cons_append List.nil_append evalP evalE evalF evalB isObj thaw Opd.ev Env.get Env.set Env.pick putE initEnv evalBin intBin evalUn evalConv goneAll goneOne retV resAll Res.ev tupOf byVals byValsN bv_d bv_da bv_fl bv_tl bn_d bn_da bn_fl bn_tl cx Dn.newObj St.place St.push St.spot St.empty cell_d cell_da cell_agg cell_ref cell_sl cell_fl cell_tl cell_map cell_fn cell_ifc loadAt faddrV partOf extractV mkAgg ofD splice St.setObj fillV
set_option linter.unusedSimpArgs false
set_option linter.unusedVariables false
open Gf (dg)

/-! ### the law SketchDiffers -/
abbrev lawQ : PostC := endQ .val St.empty [.tmp 2] fun v _ => v = B true
/-- The law's own argument. -/
structure X3 (s : St) (dA dB dO : D) (ca cb : Int) : Prop where
  o : s.objs[0]? = some (.cells [.d dA, .d dB, .d dO, I ca, I cb])
theorem X3.fr {s s' : St} {dA dB dO : D} {ca cb : Int} (h : X3 s dA dB dO ca cb) (hf : Fr [] s s') : X3 s' dA dB dO ca cb := ⟨hf.get h.o (by simp)⟩

theorem sorted_ex (L : List W32) : ∃ T : List W32, T.Pairwise ltW ∧ (∀ y ∈ T, y ∈ L) ∧ T.length ≤ L.length ∧ ∀ f, lsum T f = lsum L f := by
  obtain ⟨T, h1, h2, h3, h4⟩ := odd_set L
  have hp := List.mergeSort_perm T (fun a b => decide (un a ≤ un b))
  have hs : (T.mergeSort fun a b => decide (un a ≤ un b)).Pairwise fun a b => decide (un a ≤ un b) = true := List.pairwise_mergeSort (fun a b c h1 h2 => by simp only [decide_eq_true_eq] at *; omega) (fun a b => by simp only [Bool.or_eq_true, decide_eq_true_eq]; omega) T
  have hn : (T.mergeSort fun a b => decide (un a ≤ un b)).Nodup := hp.nodup_iff.2 h1
  refine ⟨_, ?_, fun y hy => h2 y (hp.mem_iff.1 hy), by rw [hp.length_eq]; exact h3, fun f => by rw [lsum_perm f hp]; exact h4 f⟩
  refine (hs.and hn).imp fun {a b} h => ?_
  have h5 := of_decide_eq_true h.1
  have h6 : un a ≠ un b := fun e => h.2 (by rw [← wof_un a, e, wof_un])
  show un a < un b
  omega
/-- What the two sketches of a set come to. -/
theorem differ_sums {A B O T : List W32} (hT : ∀ f, lsum T f = lsum (A ++ B) f) (k : Nat) : osum (O ++ A) k ^^^ osum (O ++ B) k = osum T k := by
  unfold osum
  rw [hT, lsum_app, lsum_app, lsum_app]
  generalize lsum O _ = o
  generalize lsum A _ = a
  generalize lsum B _ = b
  rw [BitVec.xor_comm o a, BitVec.xor_assoc, ← BitVec.xor_assoc o, Gf.xs, Gf.zx]
theorem law3_k0 {s : St} {y x : Nat} {v vx : V} {L T : List W32} {d : D} (hy : SkR s y v L) (l1 : 1 ≤ L.length) (l40 : L.length ≤ 40) (hd : PL d T) (hV : Valid L T) (hx : SkR s x vx (fnL L.length (osum T))) :
    wcode (Dn.Call Γ cx) cx c3_k0 [(4, .d .nili), (7, .ref y 0), (9, .d d), (10, .ref x 0)] s lawQ := by
  simp only [c3_k0, w_seq]
  refine w_drwX (fun f => if f = 18 ∨ f = 13 then .rd else .val) [] (by decide +kernel) ?_
  simp only [room_zero]
  have hyl := (List.getElem?_eq_some_iff.1 hy.o).1
  have hxl := (List.getElem?_eq_some_iff.1 hx.o).1
  have hld : ∀ σ, lenT σ .slice (.d d) = some T.length := fun σ => by rw [hd.len, pR_len]
  have heq : fnL L.length (osum T) = L := Gf.list_ext_co (fnL_len _ _) fun k hk => by
    rw [fnL_len] at hk
    rw [fnL_co _ hk, hV.sm k hk]
  rw [heq] at hx
  have hln := hV.ln
  have hlI : (T.length : Int) ≤ L.length := by omega
  have agr : ∀ {s2 : St} {z : Nat} {w : V} {M : List W32}, Agr s.objs.length s s2 → SkR s z w M → SkR s2 z w M := fun ha h => by
    refine ⟨(ha.1 _ (List.getElem?_eq_some_iff.1 h.o).1).trans h.o, h.r.mono fun r off n sz e => ha.1 r ?_, h.n⟩
    have := h.r
    subst e
    cases this with
    | lv h2 => cases h2
    | sl h2 => exact (List.getElem?_eq_some_iff.1 h2).1
  simp -implicitDefEqProofs [eqV, V.isNil, Opd.isC, hld]
  refine use_rdN rfl (fun s2 ha => s_skCap (agr ha hy)) ?_
  simp only [q_tcont, putE, Env.set]
  simp -implicitDefEqProofs [hlI, hln]
  have hb : ∀ {s2 : St} {z : Nat} {w : V}, SkR s2 z w L → Dn.Call Γ cx .rd 18 [.ref z 0] s2 fun v _ => v = .d (.list (byteRows (bL L))) := fun h => (s_bytesOfR h (by omega)).mono fun v s ⟨d, hv, hd⟩ => by
    rw [hv, lv_list hd (skB_ne _ l1)]
  have hcv : ∀ σ, evalConv σ .bytesStr (.d (.list (byteRows (bL L)))) = some (.d (.str (bL L))) := fun σ => conv_bytes (.list _)
  refine use_rdN rfl (fun s2 ha => hb (agr ha hx)) ?_
  simp only [q_tcont, putE, Env.set]
  simp -implicitDefEqProofs [-evalConv, hcv]
  refine use_rdN rfl (fun s2 ha => hb (agr ha hy)) ?_
  simp only [q_tcont, putE, Env.set]
  simp -implicitDefEqProofs [-evalConv, hcv, strBin]

theorem sorted_le {T : List W32} (h : T.Pairwise ltW) : T.Pairwise fun a b => un a ≤ un b := h.imp fun h => Int.le_of_lt h
theorem sorted_nd {T : List W32} (h : T.Pairwise ltW) : T.Nodup := h.imp fun h e => by rw [e] at h; exact Int.lt_irrefl _ h
theorem law3_k6 {s : St} {y : Nat} {v : V} {L Df : List W32} {dd : D} (hy : SkR s y v L) (l1 : 1 ≤ L.length) (l40 : L.length ≤ 40) (hdd : PL dd Df) (lD : Df.length ≤ 100) (hp : Df.Pairwise ltW) (hz : (0 : W32) ∉ Df) (hs : ∀ k, k < L.length → L.getD k 0 = osum Df k) :
    wcode (Dn.Call Γ cx) cx c3_k6 [(7, .ref y 0), (8, .d dd)] s lawQ := by
  have hdl : ∀ σ, lenT σ .slice (.d dd) = some Df.length := fun σ => by rw [hdd.len, pR_len]
  have hval : Df.length ≤ L.length → Valid L Df := fun h => ⟨sorted_nd hp, hz, h, hs⟩
  simp -implicitDefEqProofs [c3_k6]
  refine use_raw (s_Decode hy l1 l40) fun w s2 ⟨hq, hf, ht⟩ => ?_
  have hy2 := hy.fr hf
  have e13 : errV 13 = .d (.iface 39 (.int .i64 13)) := rfl
  rcases hq with ⟨rfl, hno⟩ | ⟨d, T, rfl, hd, hV, hS⟩
  · have hgt : ¬ Df.length ≤ L.length := fun h => hno _ (hval h)
    have hgI : ¬ (Df.length : Int) ≤ L.length := by omega
    simp -implicitDefEqProofs [c3_k5, hdl]
    refine use_rd (s_skCap hy2) ?_
    simp -implicitDefEqProofs [hgI, hgt, c3_k4, c3_k3, e13, eqV, V.isNil, Opd.isC, c3_k2]
    refine use_fn (ds := [errV 13, I 13]) rfl (s_Is 13 13) rfl ?_
    simp -implicitDefEqProofs [lenT, Dn.lenV]
  · have hd1 : ∀ σ, lenT σ .slice (.d d) = some T.length := fun σ => by rw [hd.len, pR_len]
    by_cases hle : Df.length ≤ L.length
    · have hT := hV.sorted_unique (hval hle) hS (sorted_le hp)
      subst hT
      have hleI : (T.length : Int) ≤ L.length := by omega
      have hw := s_WordsW hd hdd (by omega) (by omega)
      simp at hw
      simp -implicitDefEqProofs [c3_k5, hdl]
      refine use_rd (s_skCap hy2) ?_
      simp -implicitDefEqProofs [hleI, hle, c3_k4, eqV, V.isNil, Opd.isC]
      refine use_fn (ds := [.d d, .d dd]) rfl hw rfl ?_
      simp -implicitDefEqProofs
    · have hgI : ¬ (Df.length : Int) ≤ L.length := by omega
      simp -implicitDefEqProofs [c3_k5, hdl]
      refine use_rd (s_skCap hy2) ?_
      simp -implicitDefEqProofs [hgI, hle, c3_k4, c3_k3, eqV, V.isNil, Opd.isC, c3_k2, c3_k1]
      refine use_rd (s_skCap hy2) ?_
      simp -implicitDefEqProofs
      refine use_raw (s_newW (n := (L.length : Int)) hd (by have := hV.ln; omega)) fun w s3 ⟨hq, hf3, ht3⟩ => ?_
      have hnb : ¬ badN (L.length : Int) T := by
        rintro (h | h | h)
        · omega
        · omega
        · exact hV.nz h
      rcases hq with ⟨hb, -⟩ | ⟨-, x, r, rfl, hSk, hxr⟩
      · exact absurd hb hnb
      simp -implicitDefEqProofs
      rw [Int.toNat_natCast] at hSk
      exact law3_k0 (hy2.fr hf3) l1 l40 hd hV (hSk.toR (fun e => hxr e.symm))
theorem law3_k10 {s : St} {a b ra rb : Nat} {A B O : List W32} {dA dB dO : D} {ca cb : Int} (hX : X3 s dA dB dO ca cb) (hA : PL dA A) (hB : PL dB B) (lA : A.length ≤ 24) (lB : B.length ≤ 24) (zA : (0 : W32) ∉ A) (zB : (0 : W32) ∉ B)
    (c1 : 1 ≤ ca) (c2 : ca ≤ 40) (c3 : 1 ≤ cb) (c4 : cb ≤ 40) (ha : Sk s a ra ca.toNat (osum (O ++ A))) (hra : a ≠ ra) (hb : Sk s b rb cb.toNat (osum (O ++ B))) (hrb : b ≠ rb) :
    wcode (Dn.Call Γ cx) cx c3_k10 [(1, .ref 0 0), (3, .ref a 0), (5, .ref b 0)] s lawQ := by
  obtain ⟨m, hm⟩ : ∃ m : Nat, ca = (m : Int) := ⟨ca.toNat, by omega⟩
  obtain ⟨n, hn⟩ : ∃ n : Nat, cb = (n : Int) := ⟨cb.toNat, by omega⟩
  subst hm hn
  rw [Int.toNat_natCast] at ha hb
  have hmn := minI2 m n
  have hzl : (zipX (fnL m (osum (O ++ A))) (fnL n (osum (O ++ B)))).length = min m n := by rw [zipX_len, fnL_len, fnL_len]
  simp -implicitDefEqProofs [c3_k10]
  refine use_raw (s_With (ha.toR fun e => hra e.symm) (hb.toR fun e => hrb e.symm) (by rw [fnL_len]; omega) (by rw [fnL_len]; omega)) fun w s2 ⟨y, v, hw, hy, hf, ht⟩ => ?_
  subst hw
  have hX2 := hX.fr hf
  have hzc : ∀ k, k < min m n → (zipX (fnL m (osum (O ++ A))) (fnL n (osum (O ++ B)))).getD k 0 = osum (O ++ A) k ^^^ osum (O ++ B) k := fun k hk => by
    unfold zipX
    rw [fnL_len, fnL_len, fnL_co _ hk, fnL_co _ (by omega), fnL_co _ (by omega)]
  generalize zipX (fnL m (osum (O ++ A))) (fnL n (osum (O ++ B))) = L at *
  obtain ⟨N, hN⟩ : ∃ N, min m n = N := ⟨_, rfl⟩
  rw [hN] at hzl hmn hzc
  have hX0 := hX2.o
  simp -implicitDefEqProofs [c3_k9]
  refine w_drwX (fun f => if f = 13 then .rd else .val) [] (by decide +kernel) ?_
  simp only [room_zero]
  have agr : ∀ {s3 : St}, Agr s2.objs.length s2 s3 → SkR s3 y v L := fun ha => by
    refine ⟨(ha.1 _ (List.getElem?_eq_some_iff.1 hy.o).1).trans hy.o, hy.r.mono fun r off n sz e => ha.1 r ?_, hy.n⟩
    have := hy.r
    subst e
    cases this with
    | lv h2 => cases h2
    | sl h2 => exact (List.getElem?_eq_some_iff.1 h2).1
  simp -implicitDefEqProofs [eqV, V.isNil, Opd.isC]
  refine use_rdN rfl (fun s3 ha => s_skCap (agr ha)) ?_
  simp only [q_tcont, putE, Env.set]
  rw [hzl]
  simp -implicitDefEqProofs [hX0, hmn, c3_k8, c3_k7]
  obtain ⟨v1, s3, v2, s4, p1, p2, o1, o2, lv, ap⟩ := app2 (s := s2.room 2) hA hB (by omega) (by omega)
  have hX0R : (s2.room 2).objs[0]? = some (.cells [.d dA, .d dB, .d dO, I m, I n]) := room_at hX0
  have hX03 : s3.objs[0]? = some (.cells [.d dA, .d dB, .d dO, I m, I n]) := by rw [o1]; exact hX0R
  have hX04 : s4.objs[0]? = some (.cells [.d dA, .d dB, .d dO, I m, I n]) := by rw [o2]; exact hX0R
  refine w_drwX (fun _ => .val) [1] (by decide +kernel) ?_
  have hf4 : Fr [] s2 s4 := ⟨by rw [o2]; simp [St.room], fun q _ hq => by rw [o2]; show (s2.objs ++ _)[q]? = _; rw [List.getElem?_append_left hq]⟩
  have hy4 := hy.fr hf4
  generalize s2.room 2 = sR at *
  simp -implicitDefEqProofs [isObj, repl, rowsOf, frzV, hX0R]
  refine t_app_f (v := v1) (s := s3) ?_ ?_ (fun _ t ht q hq => by rw [o1])
  · simp [evalE, Opd.ev, Env.get, hA.rows]
    exact p1 _
  simp -implicitDefEqProofs [hX03]
  refine t_app_f (v := v2) (s := s4) ?_ ?_ (fun _ t ht q hq => by rw [o2, o1])
  · simp [evalE, Opd.ev, Env.get, hB.rows]
    exact p2 _
  simp -implicitDefEqProofs
  obtain ⟨d2, b2, l2⟩ := lv.byVal s4
  obtain ⟨T0, t1, t2, t3, t4⟩ := sorted_ex (A ++ B)
  have hnb := lv.borrows
  refine use_valN (ds := [.d d2]) rfl (by simp only [byVals, b2]) (s_sorted l2 (by simp; omega)) ⟨.d (.list (pR T0)), St.empty, _, T0, rfl, .list _, t1, t2, t3, t4⟩ fun w s5 ⟨dd, T, hw, hT, h1, h2, h3, h4⟩ => ?_
  subst hw
  refine ⟨rfl, fun hb => ?_, ?_⟩
  · simp only [List.any_cons, hnb, List.any_nil] at hb
    cases hb
  simp only [q_tcont, putE, Env.set]
  simp -implicitDefEqProofs
  have hTl : T.length ≤ 48 := by simp at h3; omega
  refine law3_k6 hy4 (by omega) (by omega) hT (by omega) h1 (fun e => ?_) (fun k hk => ?_)
  · rcases List.mem_append.1 (h2 _ e) with h | h
    · exact zA h
    · exact zB h
  · rw [hzc k (by omega), differ_sums h4]

theorem kept1 {σ s : St} {e : Env} (he : e.get 1 = .ref 0 0) (h0 : 0 < σ.objs.length) (hf : Fr [] σ s) : Kept [1] e σ s := fun t ht r hr => by
  rw [List.mem_singleton] at ht
  subst ht
  rw [he] at hr
  simp only [dref, List.mem_singleton] at hr
  subst hr
  exact hf.at_ 0 (by simp) h0
/-- Out of the bounds? -/
theorem badN_of {n : Int} {L : List W32} (h : badN n L) (hz : (0 : W32) ∉ L) : n < 1 ∨ 40 < n := by
  rcases h with h | h | h
  · exact .inl h
  · exact .inr h
  · exact absurd h hz
theorem law3_k11 {s : St} {dA dB dO : D} {ca cb : Int} (hX : X3 s dA dB dO ca cb) (h : ca < 1 ∨ 40 < ca ∨ cb < 1 ∨ 40 < cb) {w3 w5 : V} :
    wcode (Dn.Call Γ cx) cx c3_k11 [(1, .ref 0 0), (3, w3), (5, w5), (75, B true)] s lawQ := by
  have hX0 := hX.o
  by_cases h1 : ca < 1
  · simp -implicitDefEqProofs [c3_k11, hX0, h1]
  by_cases h2 : 40 < ca
  · simp -implicitDefEqProofs [c3_k11, hX0, h1, h2]
  by_cases h3 : cb < 1
  · simp -implicitDefEqProofs [c3_k11, hX0, h1, h2, h3]
  have h4 : 40 < cb := by omega
  simp -implicitDefEqProofs [c3_k11, hX0, h1, h2, h3, h4]
end Go.Proofs.Ytmlkdfjojoophaa.T

namespace Go.Proofs.Ytmlkdfjojoophaa.T
open Go.Dn
attribute [local simp] body_eq globEnv GB List.map_nil List.map_cons List.append_nil w_rangeF i_next i_makeMap i_range i_update i_delete i_entry i_clone entryV cloneV q_rndA q_rndB_n q_rndB_e q_rndB_r setAll w_skip w_ops w_seq w_cond w_block w_exit w_ret q_then_n q_then_e q_then_r q_blk_n q_blk_e q_blk_r q_ops q_cont q_end_n q_end_r q_end_e q_loop_n q_loop_e q_loop_r i_nil i_p i_alloc i_box i_store i_copy i_clear i_call i_callv i_when t_nil t_p t_call t_alloc t_box t_store kept_nil t_copy t_clear q_tcont gsel List.cons_append List.nil_append evalP evalE evalF evalB isObj thaw Opd.ev Env.get Env.set Env.pick putE initEnv evalBin intBin evalUn evalConv goneAll goneOne retV resAll Res.ev tupOf byVals byValsN bv_d bv_da bv_fl bv_tl bn_d bn_da bn_fl bn_tl cx Dn.newObj St.place St.push St.spot St.empty cell_d cell_da cell_agg cell_ref cell_sl cell_fl cell_tl cell_map cell_fn cell_ifc loadAt faddrV partOf extractV mkAgg ofD splice St.setObj fillV
set_option linter.unusedSimpArgs false
set_option linter.unusedVariables false

/-- The law's parts, and its first sketch. -/
structure P3 (dA dB dO : D) (A B O : List W32) : Prop where
  a : PL dA A
  b : PL dB B
  o : PL dO O
  la : A.length ≤ 24
  lb : B.length ≤ 24
  lo : O.length ≤ 24
  za : (0 : W32) ∉ A
  zb : (0 : W32) ∉ B
  zo : (0 : W32) ∉ O
theorem law3_k14 {s : St} {dA dB dO : D} {ca cb : Int} {A B O : List W32} (hX : X3 s dA dB dO ca cb) (hP : P3 dA dB dO A B O) {va ea : V} (hva : ((ca < 1 ∨ 40 < ca) ∧ va = .d .nilp ∧ ea = errV 1) ∨ (¬ (ca < 1 ∨ 40 < ca) ∧ ∃ a ra, va = .ref a 0 ∧ ea = .d .nili ∧ Sk s a ra ca.toNat (osum (O ++ A)) ∧ a ≠ ra)) :
    wcode (Dn.Call Γ cx) cx c3_k14 [(1, .ref 0 0), (3, va), (4, ea)] s lawQ := by
  have hO := hP.o
  have hB := hP.b
  have lB := hP.lb
  have lO := hP.lo
  obtain ⟨v1, s3, v2, s4, p1, p2, o1, o2, lv, ap⟩ := app2 (s := s.room 2) hO hB (by omega) (by omega)
  have hX0R : (s.room 2).objs[0]? = some (.cells [.d dA, .d dB, .d dO, I ca, I cb]) := room_at hX.o
  have hX03 : s3.objs[0]? = some (.cells [.d dA, .d dB, .d dO, I ca, I cb]) := by rw [o1]; exact hX0R
  have hX04 : s4.objs[0]? = some (.cells [.d dA, .d dB, .d dO, I ca, I cb]) := by rw [o2]; exact hX0R
  have hf4 : Fr [] s s4 := ⟨by rw [o2]; simp [St.room], fun q _ hq => by rw [o2]; show (s.objs ++ _)[q]? = _; rw [List.getElem?_append_left hq]⟩
  have h04 : 0 < s4.objs.length := (List.getElem?_eq_some_iff.1 hX04).1
  simp only [c3_k14, w_seq]
  refine w_drwX (fun f => if f = 11 then .raw else .val) [1] (by decide +kernel) ?_
  generalize s.room 2 = sR at *
  simp -implicitDefEqProofs [isObj, repl, rowsOf, frzV, hX0R]
  refine t_app_f (v := v1) (s := s3) ?_ ?_ (fun _ t ht q hq => by rw [o1])
  · simp [evalE, Opd.ev, Env.get, hO.rows]
    exact p1 _
  simp -implicitDefEqProofs [hX03]
  refine t_app_f (v := v2) (s := s4) ?_ ?_ (fun _ t ht q hq => by rw [o2, o1])
  · simp [evalE, Opd.ev, Env.get, hB.rows]
    exact p2 _
  simp -implicitDefEqProofs
  refine use_rawN rfl (s_newW (n := cb) lv (by simp; omega)) (newQ_ex _ _ _) fun w s5 ⟨hq, hf5, ht5⟩ => ⟨kept1 rfl h04 hf5, ?_⟩
  have hX5 := hX.fr (hf4.trans hf5)
  have hzB : (0 : W32) ∉ O ++ B := fun h => (List.mem_append.1 h).elim hP.zo hP.zb
  have e1 : errV 1 = .d (.iface 39 (.int .i64 1)) := rfl
  rcases hq with ⟨hb, rfl⟩ | ⟨hb, b, rb, rfl, hSb, hbr⟩
  · have hb' := badN_of hb hzB
    simp only [q_tcont, putE, Env.set]
    rcases hva with ⟨ha, rfl, rfl⟩ | ⟨ha, a, ra, rfl, rfl, hSa, har⟩
    · simp -implicitDefEqProofs [e1, c3_k13, eqV, V.isNil, Opd.isC, c3_k12]
      exact law3_k11 hX5 (by omega)
    · simp -implicitDefEqProofs [e1, c3_k13, eqV, V.isNil, Opd.isC, c3_k12]
      exact law3_k11 hX5 (by omega)
  · simp only [q_tcont, putE, Env.set]
    rcases hva with ⟨ha, rfl, rfl⟩ | ⟨ha, a, ra, rfl, rfl, hSa, har⟩
    · simp -implicitDefEqProofs [e1, c3_k13, eqV, V.isNil, Opd.isC, c3_k12]
      exact law3_k11 hX5 (by omega)
    · simp -implicitDefEqProofs [c3_k13, eqV, V.isNil, Opd.isC, c3_k12]
      have hcb : ¬ (cb < 1 ∨ 40 < cb) := fun h => hb (h.elim .inl fun h => .inr (.inl h))
      have hSa5 : Sk s5 a ra ca.toNat (osum (O ++ A)) := ⟨(hf4.trans hf5).get hSa.o (by simp), (hf4.trans hf5).get hSa.l (by simp)⟩
      exact law3_k10 (O := O) hX5 hP.a hP.b hP.la hP.lb hP.za hP.zb (by omega) (by omega) (by omega) (by omega) hSa5 har hSb hbr
theorem law3_k15 {s : St} {dA dB dO : D} {ca cb : Int} {A B O : List W32} (hX : X3 s dA dB dO ca cb) (hP : P3 dA dB dO A B O) :
    wcode (Dn.Call Γ cx) cx c3_k15 [(1, .ref 0 0), (43, .d (.bool false))] s lawQ := by
  have hO := hP.o
  have hA := hP.a
  have lA := hP.la
  have lO := hP.lo
  obtain ⟨v1, s3, v2, s4, p1, p2, o1, o2, lv, ap⟩ := app2 (s := s.room 2) hO hA (by omega) (by omega)
  have hX0R : (s.room 2).objs[0]? = some (.cells [.d dA, .d dB, .d dO, I ca, I cb]) := room_at hX.o
  have hX03 : s3.objs[0]? = some (.cells [.d dA, .d dB, .d dO, I ca, I cb]) := by rw [o1]; exact hX0R
  have hX04 : s4.objs[0]? = some (.cells [.d dA, .d dB, .d dO, I ca, I cb]) := by rw [o2]; exact hX0R
  have hf4 : Fr [] s s4 := ⟨by rw [o2]; simp [St.room], fun q _ hq => by rw [o2]; show (s.objs ++ _)[q]? = _; rw [List.getElem?_append_left hq]⟩
  have h04 : 0 < s4.objs.length := (List.getElem?_eq_some_iff.1 hX04).1
  simp only [c3_k15, w_seq]
  refine w_drwX (fun f => if f = 11 then .raw else .val) [1] (by decide +kernel) ?_
  generalize s.room 2 = sR at *
  simp -implicitDefEqProofs [isObj, repl, rowsOf, frzV, hX0R]
  refine t_app_f (v := v1) (s := s3) ?_ ?_ (fun _ t ht q hq => by rw [o1])
  · simp [evalE, Opd.ev, Env.get, hO.rows]
    exact p1 _
  simp -implicitDefEqProofs [hX03]
  refine t_app_f (v := v2) (s := s4) ?_ ?_ (fun _ t ht q hq => by rw [o2, o1])
  · simp [evalE, Opd.ev, Env.get, hA.rows]
    exact p2 _
  simp -implicitDefEqProofs
  refine use_rawN rfl (s_newW (n := ca) lv (by simp; omega)) (newQ_ex _ _ _) fun w s5 ⟨hq, hf5, ht5⟩ => ⟨kept1 rfl h04 hf5, ?_⟩
  have hX5 := hX.fr (hf4.trans hf5)
  have hzA : (0 : W32) ∉ O ++ A := fun h => (List.mem_append.1 h).elim hP.zo hP.za
  rcases hq with ⟨hb, rfl⟩ | ⟨hb, a, ra, rfl, hSa, har⟩
  · simp only [q_tcont, putE, Env.set]
    simp -implicitDefEqProofs
    exact law3_k14 hX5 hP (.inl ⟨badN_of hb hzA, rfl, rfl⟩)
  · simp only [q_tcont, putE, Env.set]
    simp -implicitDefEqProofs
    exact law3_k14 hX5 hP (.inr ⟨fun h => hb (h.elim .inl fun h => .inr (.inl h)), a, ra, rfl, rfl, hSa, har⟩)
theorem law3 {x0 : List D} (h0 : Lks [wordsK, wordsK, wordsK, .int .i64, .int .i64] x0) : Dn.Call Γ cx .val 3 [.da x0] St.empty fun r _ => r = B true := by
  simp only [Lks] at h0
  obtain ⟨dA, r0, rfl, fA, dB, r1, rfl, fB, dO, r2, rfl, fO, d3, r3, rfl, ⟨ca, rfl, -, -⟩, d4, r4, rfl, ⟨cb, rfl, -, -⟩, rfl⟩ := h0
  obtain ⟨A, hA⟩ := words_fit fA
  obtain ⟨B, hB⟩ := words_fit fB
  obtain ⟨O, hO⟩ := words_fit fO
  refine Dn.Call.body (fc := c3) rfl ?_
  have hlA : ∀ σ, lenT σ .slice (.d dA) = some A.length := fun σ => by rw [hA.len, pR_len]
  have hlB : ∀ σ, lenT σ .slice (.d dB) = some B.length := fun σ => by rw [hB.len, pR_len]
  have hlO : ∀ σ, lenT σ .slice (.d dO) = some O.length := fun σ => by rw [hO.len, pR_len]
  simp -implicitDefEqProofs [c3, c3_k19]
  refine use_fn rfl s_alive rfl ?_
  by_cases g1 : (24 : Int) < A.length
  · simp -implicitDefEqProofs [c3_k18, c3_k17, hlA, g1, c3_k16]
  by_cases g2 : (24 : Int) < B.length
  · simp -implicitDefEqProofs [c3_k18, c3_k17, hlA, g1, hlB, g2, c3_k16]
  by_cases g3 : (24 : Int) < O.length
  · simp -implicitDefEqProofs [c3_k18, c3_k17, hlA, g1, hlB, g2, hlO, g3, c3_k16]
  simp -implicitDefEqProofs [c3_k18, c3_k17, hlA, g1, hlB, g2, hlO, g3]
  refine use_fn (ds := [.d dA]) rfl (s_none hA (by omega)) rfl ?_
  by_cases z1 : (0 : W32) ∈ A
  · simp -implicitDefEqProofs [z1, c3_k16]
    have z1' : (0#32 : W32) ∈ A := z1
    simp -implicitDefEqProofs [z1']
  have z1' : (0#32 : W32) ∉ A := z1
  simp -implicitDefEqProofs [z1']
  refine use_fn (ds := [.d dB]) rfl (s_none hB (by omega)) rfl ?_
  by_cases z2 : (0 : W32) ∈ B
  · have z2' : (0#32 : W32) ∈ B := z2
    simp -implicitDefEqProofs [z2', c3_k16]
  have z2' : (0#32 : W32) ∉ B := z2
  simp -implicitDefEqProofs [z2']
  refine use_fn (ds := [.d dO]) rfl (s_none hO (by omega)) rfl ?_
  by_cases z3 : (0 : W32) ∈ O
  · have z3' : (0#32 : W32) ∈ O := z3
    simp -implicitDefEqProofs [z3', c3_k16]
  have z3' : (0#32 : W32) ∉ O := z3
  simp -implicitDefEqProofs [z3', c3_k16]
  exact law3_k15 (s := ⟨[.cells [.d dA, .d dB, .d dO, I ca, I cb]], []⟩) ⟨rfl⟩ ⟨hA, hB, hO, by omega, by omega, by omega, z1, z2, z3⟩
end Go.Proofs.Ytmlkdfjojoophaa.T
