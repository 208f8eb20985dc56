import Derived.Test.YtmlkdfjojoophaaF22
namespace Go.Proofs.Ytmlkdfjojoophaa.T
open Go.Dn
attribute [local simp] body_eq globEnv GB List.map_nil List.map_cons List.append_nil w_rangeF i_next i_makeMap i_range i_update i_delete i_entry i_clone entryV cloneV q_rndA q_rndB_n q_rndB_e q_rndB_r setAll w_skip w_ops w_seq w_cond w_block w_exit w_ret q_then_n q_then_e q_then_r q_blk_n q_blk_e q_blk_r q_ops q_cont q_end_n q_end_r q_end_e q_loop_n q_loop_e q_loop_r i_nil i_p i_alloc i_box i_store i_copy i_clear i_call i_callv i_when t_nil t_p t_call t_alloc t_box t_store kept_nil t_copy t_clear q_tcont gsel List.cons_append List.nil_append evalP evalE evalF evalB isObj thaw Opd.ev Env.get Env.set Env.pick putE initEnv evalBin intBin evalUn evalConv goneAll goneOne retV resAll Res.ev tupOf byVals byValsN bv_d bv_da bv_fl bv_tl bn_d bn_da bn_fl bn_tl cx Dn.newObj St.place St.push St.spot St.empty cell_d cell_da cell_agg cell_ref cell_sl cell_fl cell_tl cell_map cell_fn cell_ifc loadAt faddrV partOf extractV mkAgg ofD splice St.setObj fillV
set_option linter.unusedSimpArgs false
set_option linter.unusedVariables false
open Gf (dg)

def osum (T : List W32) (k : Nat) : W32 := lsum T fun x => oddp x k
theorem acc_map (f : Nat → W32) (k : Nat) : ∀ (T : List W32), acc f (T.map un) k = f k ^^^ osum T k := by
  intro T
  unfold acc osum
  generalize f k = a
  induction T generalizing a with
  | nil => exact (Gf.x0 a).symm
  | cons x T ih =>
    simp only [List.map_cons, List.foldl_cons, lsum]
    rw [ih, wof_un, BitVec.xor_assoc]
theorem acc_osum (T : List W32) : acc (fun _ => 0) (T.map un) = osum T := by
  funext k
  rw [acc_map]
  exact Gf.zx _
theorem uRows_map (T : List W32) : uRows (T.map un) = pR T := by
  unfold uRows pR
  rw [List.map_map]
  rfl
theorem un_bound (T : List W32) : ∀ i ∈ T.map un, 0 ≤ i ∧ i ≤ 4294967295 := fun i hi => by
  obtain ⟨w, _, rfl⟩ := List.mem_map.1 hi
  have := w.isLt
  simp only [un]
  omega
theorem un_zero_mem (T : List W32) : (0 : Int) ∈ T.map un ↔ (0 : W32) ∈ T := by
  constructor
  · intro h
    obtain ⟨w, hw, h0⟩ := List.mem_map.1 h
    have := (un_zero_iff w).1 h0
    rwa [this] at hw
  · intro h
    exact List.mem_map.2 ⟨0, h, rfl⟩
structure Valid (L T : List W32) : Prop where
  nd : T.Nodup
  nz : (0 : W32) ∉ T
  ln : T.length ≤ L.length
  sm : ∀ k, k < L.length → L.getD k 0 = osum T k
theorem sq_npow (x : W32) (n : Nat) : Gf.sq (Gf.npow x n) = Gf.npow x (2 * n) := by
  unfold Gf.sq
  rw [← Gf.npow_add, Nat.two_mul]
theorem sq_lsum (f : W32 → W32) : ∀ T : List W32, Gf.sq (lsum T f) = lsum T fun x => Gf.sq (f x)
  | [] => Gf.sq_zero
  | x :: T => by simp only [lsum]; rw [Gf.sq_xor, sq_lsum f T]
theorem pows_of {L T : List W32} (h : ∀ k, k < L.length → L.getD k 0 = osum T k) : ∀ n, n ≤ 2 * L.length → ∀ i, i < n → (powTo L n).getD i 0 = lsum T fun x => Gf.npow x (i + 1) := by
  intro n hn i
  induction i using Nat.strongRecOn generalizing n with
  | _ i ih =>
    intro hi
    rw [powTo_co L hi]
    split
    · rename_i he
      rw [h _ (by omega)]
      unfold osum oddp
      rw [show 2 * (i / 2) + 1 = i + 1 by omega]
    · rename_i he
      rw [ih (i / 2) (by omega) i (by omega) (by omega), sq_lsum]
      refine lsum_congr fun x _ => ?_
      rw [sq_npow, show 2 * (i / 2 + 1) = i + 1 by omega]
theorem Valid.pows {L T : List W32} (h : Valid L T) : Pows T (powL L) := fun i hi => pows_of h.sm (2 * L.length) (Nat.le_refl _) i (by
  unfold powL at hi
  rwa [powTo_len] at hi)
theorem Valid.rule {L T : List W32} (h : Valid L T) : (ruleL (powL L)).reverse = Gf.prodL T :=
  rule_prod h.nd h.nz h.pows (by unfold powL; rw [powTo_len]; have := h.ln; omega)
theorem Valid.unique {L T T' : List W32} (h : Valid L T) (h' : Valid L T') : T.Perm T' := by
  have e : Gf.prodL T = Gf.prodL T' := h.rule.symm.trans h'.rule
  refine (List.perm_ext_iff_of_nodup h.nd h'.nd).2 fun x => ?_
  rw [← Gf.ev_prodL (S := T), e, Gf.ev_prodL]
theorem lsum_perm (f : W32 → W32) {T T' : List W32} (h : T.Perm T') : lsum T f = lsum T' f := by
  induction h with
  | nil => rfl
  | cons x _ ih => simp only [lsum]; rw [ih]
  | swap x y l => simp only [lsum]; rw [← BitVec.xor_assoc, ← BitVec.xor_assoc, BitVec.xor_comm (f y)]
  | trans _ _ h1 h2 => exact h1.trans h2
theorem Valid.perm {L T T' : List W32} (h : Valid L T) (hp : T.Perm T') : Valid L T' :=
  ⟨hp.nodup_iff.1 h.nd, fun e => h.nz (hp.mem_iff.2 e), by rw [← hp.length_eq]; exact h.ln, fun k hk => by rw [h.sm k hk]; exact lsum_perm _ hp⟩
theorem odd_set : ∀ ids : List W32, ∃ T : List W32, T.Nodup ∧ (∀ x ∈ T, x ∈ ids) ∧ T.length ≤ ids.length ∧ ∀ f, lsum T f = lsum ids f
  | [] => ⟨[], List.nodup_nil, by simp, Nat.le_refl _, fun _ => rfl⟩
  | x :: ids => by
    obtain ⟨T, h1, h2, h3, h4⟩ := odd_set ids
    by_cases hx : x ∈ T
    · have hp := List.perm_cons_erase hx
      refine ⟨T.erase x, h1.erase x, fun y hy => List.mem_cons_of_mem _ (h2 y (List.mem_of_mem_erase hy)), ?_, fun f => ?_⟩
      · have := hp.length_eq
        simp at this ⊢
        omega
      · have := lsum_perm f hp
        simp only [lsum] at this ⊢
        rw [← h4 f, this, ← BitVec.xor_assoc, Gf.xs, Gf.zx]
    · exact ⟨x :: T, List.nodup_cons.2 ⟨hx, h1⟩, fun y hy => by
        rcases List.mem_cons.1 hy with rfl | hy
        · simp
        · exact List.mem_cons_of_mem _ (h2 y hy), by simp; omega, fun f => by simp only [lsum]; rw [h4 f]⟩

theorem s_skPutZ {σ : St} {x : Nat} {v : V} {ids : List Int} (hv : LV v (uRows ids)) (hz : (0 : Int) ∈ ids) (hlen : ids.length ≤ 1000) :
    Dn.Call Γ cx .raw 28 [.ref x 0, v] σ fun w s => w = errV 1 ∧ s = σ := by
  refine Dn.Call.body (fc := c28) rfl ?_
  have hdv := hv.dv σ
  obtain ⟨y, hy⟩ := hdv.2.2.1
  have hc := s_Contains (x := y) (L := ids) (hy ▸ hdv.2.1) (h := 0) (by omega)
  have hcv : decide ((0 : Int) ∈ ids) = true := by simpa using hz
  rw [hcv] at hc
  simp -implicitDefEqProofs [c28, c28_k7, eqV, V.isNil, Opd.isC]
  refine use_fn (ds := [.d y, X 0]) (by simp only [byVals, bv_d, hdv.1, hy]) hc (Bool.or_true _) ?_
  simp -implicitDefEqProofs [c28_k6, mkifV, errV]
theorem s_skNewZ {σ : St} {n : Nat} (h1 : 1 ≤ n) (h2 : n ≤ 40) {v : V} {ids : List Int} (hv : LV v (uRows ids)) (hz : (0 : Int) ∈ ids) (hlen : ids.length ≤ 1000) :
    Dn.Call Γ cx .raw 11 [I n, v] σ fun w s => w = .tup [.d .nilp, errV 1] ∧ Fr [] σ s ∧ s.toks = σ.toks := by
  refine Dn.Call.body (fc := c11) rfl ?_
  have l1 : ¬ (n : Int) < 1 := by omega
  have l2 : ¬ (40 : Int) < n := by omega
  have l1' : (1 : Int) ≤ n := by omega
  have l2' : (n : Int) ≤ 40 := by omega
  obtain ⟨n1, hn1⟩ : ∃ n1 : Int, (n : Int) = n1 := ⟨_, rfl⟩
  simp -implicitDefEqProofs [c11, c11_k6, l1, l2, c11_k5]
  simp -implicitDefEqProofs [c11_k4]
  refine i_app_f (v := .sl σ.objs.length 0 n 1) (s := ⟨σ.objs ++ [.cells (fnV n fun _ => 0)], σ.toks⟩) ?_ ?_
  · have hb : (n : Int) * 4 ≤ 140737488355328 := by omega
    have hb2 : (n : Int) ≤ 9223372036854775807 := by omega
    have hr : repl n [.int .u32 0] = fnV n fun _ => 0 := by
      rw [← zeros_fn]
      exact repl_one n
    simp [evalE, Opd.ev, Env.get, hb, hb2, hr, Dn.newObj, St.place, St.push, St.spot]
  simp -implicitDefEqProofs
  refine use_raw (s_skPutZ hv hz hlen) fun w s ⟨hw, hs⟩ => ?_
  subst hw hs
  simp -implicitDefEqProofs [errV, eqV, V.isNil, Opd.isC, c11_k3, c11_k2, c11_k1]
  exact ⟨by simp, fun q _ hq => by simp only; rw [List.getElem?_append_left hq]⟩

def decQ (L : List W32) (v : V) : Prop := (v = .tup [.d .nils, errV 13] ∧ ∀ T, ¬ Valid L T) ∨ (∃ d T, v = .tup [.d d, .d .nili] ∧ PL d T ∧ Valid L T ∧ T.Pairwise fun a b => un a ≤ un b)
theorem dec_eq {σ s : St} {y x r : Nat} {v : V} {L ids : List W32} {d : D} (hy : SkR s y v L) (lL : L.length ≤ 40) (hx : SkR s x (.sl r 0 L.length 1) (fnL L.length (osum ids))) (hf : Fr [] σ s) (ht : s.toks = σ.toks) (hok : fnL L.length (osum ids) = L → ∃ T, PL d T ∧ Valid L T ∧ T.Pairwise fun a b => un a ≤ un b) (hno : fnL L.length (osum ids) ≠ L → ∀ T, ¬ Valid L T) :
    wcode (Dn.Call Γ cx) cx c15_k2 [(0, .ref y 0), (5, .d d), (7, .ref x 0), (8, .d .nili)] s (endQ .raw σ c15.res fun w s => decQ L w ∧ Fr [] σ s ∧ s.toks = σ.toks) := by
  obtain ⟨d1, b1, l1⟩ := hx.r.byVal
  obtain ⟨d2, b2, l2⟩ := hy.r.byVal
  have hlx := fnL_len L.length (osum ids)
  simp only [c15_k2, w_seq, c15]
  refine w_drwX (fun _ => .val) [] (by decide +kernel) ?_
  simp only [room_zero]
  simp -implicitDefEqProofs [eqV, V.isNil, Opd.isC, nilCheckV, hx.o, hy.o]
  refine use_fnN (ds := [.d d1, .d d2]) rfl (by simp only [byVals, b1, b2]) (s_Equal l1 l2 (by omega) (by omega)) (Bool.or_true _) ?_
  simp only [q_tcont, putE, Env.set]
  by_cases he : fnL L.length (osum ids) = L
  · obtain ⟨T, h1, h2, h3⟩ := hok he
    simp -implicitDefEqProofs [he, c15_k1, c15_k0]
    exact ⟨.inr ⟨d, T, rfl, h1, h2, h3⟩, hf, ht⟩
  · simp -implicitDefEqProofs [he, c15_k1, mkifV]
    exact ⟨.inl ⟨rfl, hno he⟩, hf, ht⟩
theorem dec_err {σ s : St} {y : Nat} {L : List W32} {d : D} (hf : Fr [] σ s) (ht : s.toks = σ.toks) (hno : ∀ T, ¬ Valid L T) :
    wcode (Dn.Call Γ cx) cx c15_k2 [(0, .ref y 0), (5, .d d), (7, .d .nilp), (8, .d (.iface 39 (.int .i64 1)))] s (endQ .raw σ c15.res fun w s => decQ L w ∧ Fr [] σ s ∧ s.toks = σ.toks) := by
  simp only [c15_k2, w_seq, c15]
  refine w_drwX (fun _ => .val) [] (by decide +kernel) ?_
  simp only [room_zero]
  simp -implicitDefEqProofs [eqV, V.isNil, Opd.isC, nilCheckV, c15_k1, mkifV]
  exact ⟨.inl ⟨rfl, hno⟩, hf, ht⟩
theorem s_Decode {σ : St} {y : Nat} {v : V} {L : List W32} (h : SkR σ y v L) (l1 : 1 ≤ L.length) (l40 : L.length ≤ 40) : Dn.Call Γ cx .raw 15 [.ref y 0] σ fun w s => decQ L w ∧ Fr [] σ s ∧ s.toks = σ.toks := by
  refine Dn.Call.body (fc := c15) rfl ?_
  have hlv := fun σ => h.r.len σ
  have lp : (powL L).length = 2 * L.length := powTo_len L _
  simp -implicitDefEqProofs [c15, c15_k12, eqV, V.isNil, Opd.isC, c15_k11, c15_k10]
  refine use_rd' (s_powers h (by omega)) fun w s ⟨d, hw, hd⟩ => ?_
  subst hw
  simp -implicitDefEqProofs
  refine use_raw (s_Shortest hd (by omega)) fun w s ⟨r, hw, hN⟩ => ?_
  have hrl := ruleL_len (powL L)
  have hvr := fun {T : List W32} (hT : Valid L T) => hT.rule
  have hnb := (runM_len (powL L) (powL L).length).2.2.2
  generalize ruleL (powL L) = R at *
  generalize (runM (powL L) (powL L).length).len = n at *
  subst hw
  have hS := h.fr hN.fr
  have hob := hN.obj.1
  have hlsl : ∀ σ m, lenT σ .slice (.sl r 0 m 1) = some m := fun _ _ => rfl
  have w1 : IntKind.i64.wrap (n : Int) = (n : Int) := wrap_i64 (by omega) (by omega)
  by_cases hgt : L.length < n
  · have hgI : (L.length : Int) < n := by omega
    simp -implicitDefEqProofs [c15_k9, nilCheckV, hS.o, hlv, hlsl, hrl, w1, hgI, hgt, c15_k8, mkifV]
    refine ⟨.inl ⟨rfl, fun T hT => ?_⟩, hN.fr, hN.tk⟩
    have h2 := congrArg List.length (hvr hT)
    rw [List.length_reverse, hrl, Gf.prodL_len] at h2
    have := hT.ln
    omega
  have hgI : ¬ (L.length : Int) < n := by omega
  simp -implicitDefEqProofs [c15_k9, nilCheckV, hS.o, hlv, hlsl, hrl, w1, hgI, hgt, c15_k8, c15_k7]
  rw [← hrl]
  refine use_raw (s_Reverse hob (by omega)) fun w s2 ⟨ho2, hf2, ht2⟩ => ?_
  have hrf : σ.objs.length ≤ r := hN.nw _ _ _ _ rfl
  have hf2' : Fr [] σ s2 := ⟨Nat.le_trans hN.fr.len hf2.len, fun q _ hq => by
    rw [hf2.at_ q (by simp; omega) (Nat.lt_of_lt_of_le hq hN.fr.len)]
    exact hN.fr.at_ q (by simp) hq⟩
  have hrv : R.reverse.length = R.length := List.length_reverse
  have hlr : R.reverse.length = n + 1 := by omega
  have hrow : V.rows s2 (.sl r 0 R.length 1) = some (pR R.reverse) := by
    rw [← hrv]
    exact (Rd.whole ho2).rows
  generalize R.reverse = P at *
  simp -implicitDefEqProofs [c15_k6]
  refine use_thaw (ds := [.d (.list (pR P))]) (σ' := s2.setObj r .dead) (by simp only [thawV, hrow]) rfl rfl (s_Split (.list (pR P)) (by omega)) fun w s3 hw => ?_
  have hf3 : Fr [] σ (s2.setObj r .dead) := ⟨by simpa [St.setObj] using hf2'.len, fun q _ hq => by
    simp only [St.setObj]
    rw [List.getElem?_set_ne (by omega)]
    exact hf2'.at_ q (by simp) hq⟩
  have ht3 : (s2.setObj r .dead).toks = σ.toks := ht2.trans hN.tk
  have hS3 := h.fr hf3
  generalize s2.setObj r .dead = s4 at *
  have dP := Gf.dg_le P
  have hval : ∀ T, Valid L T → ¬ badP P ∧ (foundP (linearP P)).Perm T ∧ dg P = T.length + 1 := fun T hT => by
    have hPT : P = Gf.prodL T := hvr hT
    have hln := hT.ln
    have hd := Gf.prodL_dg T
    rw [hPT]
    refine ⟨?_, found_prod hT.nd (by omega), hd⟩
    unfold badP
    omega
  rcases hw with ⟨rfl, hbad⟩ | ⟨hnb2, d2, ids, rfl, hd2, hr2, hl2⟩
  · refine ⟨rfl, ?_⟩
    simp -implicitDefEqProofs [c15_k5, c15_k4, mkifV]
    refine ⟨.inl ⟨rfl, fun T hT => ?_⟩, hf3, ht3⟩
    obtain ⟨v1, v2, v3⟩ := hval T hT
    rcases hbad with hb | hb
    · exact v1 hb
    · rw [v2.length_eq, v3] at hb
      exact hb rfl
  refine ⟨rfl, ?_⟩
  simp -implicitDefEqProofs [c15_k5, c15_k4, c15_k3, nilCheckV, hS3.o, hlv]
  have hidl : ids.length ≤ 60 := hr2.2.2
  have hlvI : LV (.d d2) (uRows (ids.map un)) := by rw [uRows_map]; exact hd2
  have hvp : ∀ T, Valid L T → ids.Perm T := fun T hT => hr2.1.trans (hval T hT).2.1
  by_cases hz : (0 : W32) ∈ ids
  · refine use_raw (s_skNewZ l1 l40 hlvI ((un_zero_mem ids).2 hz) (by simp; omega)) fun w s5 ⟨hw, hf5, ht5⟩ => ?_
    subst hw
    simp -implicitDefEqProofs [errV]
    exact dec_err (hf3.trans hf5) (ht5.trans ht3) fun T hT => hT.nz ((hvp T hT).mem_iff.1 hz)
  refine use_raw (s_skNew l1 l40 hlvI (un_bound ids) (fun e => hz ((un_zero_mem ids).1 e)) (by simp; omega)) fun w s5 ⟨hw, hSk, hf5, ht5⟩ => ?_
  subst hw
  simp -implicitDefEqProofs
  rw [acc_osum] at hSk
  have hlS := (List.getElem?_eq_some_iff.1 hSk.l).1
  refine dec_eq (hS3.fr hf5) l40 (hSk.toR (by omega)) (hf3.trans hf5) (ht5.trans ht3) (fun he => ?_) (fun he T hT => ?_)
  · obtain ⟨T0, t1, t2, t3, t4⟩ := odd_set ids
    have hsm : ∀ k, k < L.length → L.getD k 0 = osum ids k := fun k hk => by
      have h6 := fnL_co (osum ids) hk
      rw [he] at h6
      exact h6
    have hT0 : Valid L T0 := ⟨t1, fun e => hz (t2 0 e), by omega, fun k hk => by rw [hsm k hk]; exact (t4 _).symm⟩
    exact ⟨ids, hd2, hT0.perm (hvp T0 hT0).symm, hr2.2.1⟩
  · apply he
    refine Gf.list_ext_co (fnL_len _ _) fun k hk => ?_
    rw [fnL_len] at hk
    rw [fnL_co _ hk, hT.sm k hk]
    exact lsum_perm _ (hvp T hT)
end Go.Proofs.Ytmlkdfjojoophaa.T

namespace Go.Proofs.Ytmlkdfjojoophaa.T
open Go.Dn
attribute [local simp] body_eq globEnv GB List.map_nil List.map_cons List.append_nil w_rangeF i_next i_makeMap i_range i_update i_delete i_entry i_clone entryV cloneV q_rndA q_rndB_n q_rndB_e q_rndB_r setAll w_skip w_ops w_seq w_cond w_block w_exit w_ret q_then_n q_then_e q_then_r q_blk_n q_blk_e q_blk_r q_ops q_cont q_end_n q_end_r q_end_e q_loop_n q_loop_e q_loop_r i_nil i_p i_alloc i_box i_store i_copy i_clear i_call i_callv i_when t_nil t_p t_call t_alloc t_box t_store kept_nil t_copy t_clear q_tcont gsel List.cons_append List.nil_append evalP evalE evalF evalB isObj thaw Opd.ev Env.get Env.set Env.pick putE initEnv evalBin intBin evalUn evalConv goneAll goneOne retV resAll Res.ev tupOf byVals byValsN bv_d bv_da bv_fl bv_tl bn_d bn_da bn_fl bn_tl cx Dn.newObj St.place St.push St.spot St.empty cell_d cell_da cell_agg cell_ref cell_sl cell_fl cell_tl cell_map cell_fn cell_ifc loadAt faddrV partOf extractV mkAgg ofD splice St.setObj fillV
set_option linter.unusedSimpArgs false
set_option linter.unusedVariables false

theorem s_WordsW {x y : D} {X Y : List W32} (hx : PL x X) (hy : PL y Y) (lX : X.length ≤ 100000) (lY : Y.length ≤ 100000) : Dn.Call Γ cx .val 16 [.d x, .d y] St.empty fun v _ => v = B (decide (X = Y)) := by
  refine Dn.Call.body (fc := c16) rfl ?_
  have hlx : ∀ σ, lenT σ .slice (.d x) = some X.length := fun σ => by rw [hx.len, pR_len]
  have hly : ∀ σ, lenT σ .slice (.d y) = some Y.length := fun σ => by rw [hy.len, pR_len]
  by_cases hl : X.length = Y.length
  rotate_left
  · have hne : X ≠ Y := fun e => hl (by rw [e])
    have hlI : ¬ (X.length : Int) = Y.length := by omega
    simp -implicitDefEqProofs [c16, c16_k9, hlx, hly, hl, hlI, c16_k8, hne]
  simp -implicitDefEqProofs [c16, c16_k9, hlx, hly, hl, c16_k8, c16_k7, c16_k6]
  refine wloopI (fun m e s => InvEq x y X.length m e s ∧ ∀ i, i + m < X.length → X.getD i 0 = Y.getD i 0) (m := X.length) ⟨⟨0, by rw [hl]; rfl, rfl, by omega, rfl⟩, fun i hi => by omega⟩ ?_
  rintro m e s ⟨⟨i, rfl, rfl, hi, rfl⟩, hall⟩
  rcases hin : decide ((i : Int) < X.length) with _ | _
  · have hlt : ¬ (i : Int) < X.length := of_decide_eq_false hin
    have heq : X = Y := Gf.list_ext_co hl fun j hj => hall j (by omega)
    simp -implicitDefEqProofs [hlt, c16_l5, c16_k4, heq]
    omega
  have hlt : (i : Int) < X.length := of_decide_eq_true hin
  obtain ⟨a, ha⟩ : ∃ a, X[i]? = some a := ⟨_, List.getElem?_eq_getElem (by omega)⟩
  obtain ⟨b, hb⟩ : ∃ b, Y[i]? = some b := ⟨_, List.getElem?_eq_getElem (by omega)⟩
  have hia := fun σ => hx.iaddr σ (k := .i64) (sz := 1) (i := i) (pR_at ha) rfl
  have hib := fun σ => hy.iaddr σ (k := .i64) (sz := 1) (i := i) (pR_at hb) rfl
  have w9 : IntKind.i64.wrap ((i : Int) + 1) = ((i + 1 : Nat) : Int) := by rw [wrap_i64 (by omega) (by omega)]; omega
  simp -implicitDefEqProofs [hlt, c16_l5, c16_k4, c16_k3, c16_k2, c16_k1]
  refine w_drwX (fun _ => .val) [] (by decide +kernel) ?_
  simp only [room_zero]
  simp -implicitDefEqProofs [hia, hib]
  by_cases hab : a = b
  · subst hab
    simp -implicitDefEqProofs [c16_k0, w9]
    refine ⟨X.length - (i + 1), by omega, ⟨i + 1, rfl, rfl, by omega, rfl⟩, fun j hj => ?_⟩
    by_cases hji : j = i
    · subst hji
      have e1 := getD_at ha
      have e2 := getD_at hb
      rw [List.getD_eq_getElem?_getD] at e1 e2
      exact e1.trans e2.symm
    · have := hall j (by omega)
      rw [List.getD_eq_getElem?_getD, List.getD_eq_getElem?_getD] at this
      exact this
  · have hu : ¬ un a = un b := fun e => hab (by rw [← wof_un a, e, wof_un])
    have hne : X ≠ Y := fun e => hab (by rw [e, hb] at ha; exact (Option.some.inj ha).symm)
    simp -implicitDefEqProofs [hu, c16_k0, hne]
theorem errV_bv (c : Int) (s : St) : V.byVal s (errV c) = some (errV c) := by
  unfold errV
  split <;> rfl
theorem s_Is (c k : Int) : Dn.Call Γ cx .val 17 [errV c, I k] St.empty fun v _ => v = B (decide (c = k)) := by
  refine Dn.Call.body (fc := c17) rfl ?_
  simp -implicitDefEqProofs [c17, c17_k0]
  refine use_fn (ds := [errV c]) (by simp only [byVals, errV_bv]) (s_Num c) (Bool.or_true _) ?_
  simp -implicitDefEqProofs
def bL (L : List W32) : List UInt8 := skB (fun i => L.getD i 0) L.length
theorem skB_congr {f g : Nat → W32} : ∀ {n : Nat}, (∀ i, i < n → f i = g i) → skB f n = skB g n
  | 0, _ => rfl
  | n + 1, h => by simp only [skB]; rw [skB_congr fun i hi => h i (by omega), h n (by omega)]
theorem bL_fn (n : Nat) (f : Nat → W32) : bL (fnL n f) = skB f n := by
  unfold bL
  rw [fnL_len]
  exact skB_congr fun i hi => fnL_co f hi
theorem pR_w (L : List W32) : pR L = wRows (fun i => L.getD i 0) L.length := by
  apply List.ext_getElem?
  intro i
  by_cases h : i < L.length
  · rw [wRows_at _ h, pR_at (w := L.getD i 0) (by rw [List.getD_eq_getElem?_getD, List.getElem?_eq_getElem h]; rfl)]
  · rw [List.getElem?_eq_none (by rw [pR_len]; omega), List.getElem?_eq_none (by rw [wRows_len]; omega)]
def InvSbR (σ : St) (v0 : V) (L : List W32) (m : Nat) (e : Env) (s : St) : Prop := ∃ (i : Nat) (v : V), e = [(3, v), (7, v0), (8, I L.length), (9, I i)] ∧ m = L.length - i ∧ i ≤ L.length ∧ Two σ s 1 1 v (.d .nils) (byteRows (skB (fun i => L.getD i 0) i)) []
def InvSb2R (σ : St) (v0 : V) (L : List W32) (i : Nat) (m : Nat) (e : Env) (s : St) : Prop := ∃ (k : Nat) (v : V), e = [(3, v), (5, Xw (L.getD i 0)), (7, v0), (8, I L.length), (9, I i), (13, I k)] ∧ m = 4 - k ∧ k ≤ 4 ∧ Two σ s 1 1 v (.d .nils) (byteRows (skB (fun i => L.getD i 0) i ++ (le4 (L.getD i 0)).take k)) []
theorem s_bytesR {σ : St} {v0 : V} {L : List W32} (h : Rd σ v0 L) (hn : L.length ≤ 1000) : Dn.Call Γ cx .rd 41 [v0] σ fun v _ => ∃ d, v = .d d ∧ LV (.d d) (byteRows (bL L)) := by
  refine Dn.Call.body (fc := c41) rfl ?_
  have hlv := fun σ => h.len σ
  simp -implicitDefEqProofs [c41, c41_k13, c41_k12, hlv, c41_k11]
  refine wloopI (InvSbR σ v0 L) (m := L.length) ⟨0, _, rfl, rfl, by omega, Two.nil σ 1 1⟩ ?_
  rintro m e s ⟨i, v, rfl, rfl, hi, hT⟩
  have hrd : Rd s v0 L := h.fr hT.fr
  rcases hin : decide ((i : Int) < L.length) with _ | _
  · have hlt : ¬ (i : Int) < L.length := of_decide_eq_false hin
    obtain rfl : i = L.length := by omega
    have hdv := hT.pa.lv.dv s
    obtain ⟨d, hd⟩ := hdv.2.2.1
    simp -implicitDefEqProofs [hlt, c41_l10, c41_k9, c41_k0, hT.pa.lv.byValN, hdv.1]
    exact ⟨hT.keeps, d, hd, hd ▸ hdv.2.1⟩
  have hlt : (i : Int) < L.length := of_decide_eq_true hin
  obtain ⟨w, hw⟩ : ∃ w, L[i]? = some w := ⟨_, List.getElem?_eq_getElem (by omega)⟩
  obtain ⟨ad, ha1, ha2⟩ := hrd.at hw
  have hgw : L.getD i 0 = w := getD_at hw
  have w9 : IntKind.i64.wrap ((i : Int) + 1) = ((i + 1 : Nat) : Int) := by rw [wrap_i64 (by omega) (by omega)]; omega
  simp -implicitDefEqProofs [-loadAt, hlt, c41_l10, c41_k9, c41_k8, ha1, ha2, c41_k7, c41_k6]
  refine wloopI (InvSb2R σ v0 L i) (m := 4) ⟨0, v, by rw [hgw]; rfl, rfl, by omega, by simpa using hT⟩ ?_
  rintro m e s2 ⟨k, v2, rfl, rfl, hk, hT2⟩
  rw [hgw] at hT2 ⊢
  by_cases hk4 : k < 4
  rotate_left
  · obtain rfl : k = 4 := by omega
    simp -implicitDefEqProofs [c41_l5, c41_k4, w9]
    refine ⟨L.length - (i + 1), by omega, i + 1, v2, rfl, rfl, by omega, ?_⟩
    have : skB (fun i => L.getD i 0) (i + 1) = skB (fun i => L.getD i 0) i ++ (le4 w).take 4 := by
      simp only [skB, hgw]
      rfl
    rw [this]
    exact hT2
  have hkk : (k : Int) < 4 := by omega
  have h8 : IntKind.i64.wrap (8 * (k : Int)) = ((8 * k : Nat) : Int) := by rw [wrap_i64 (by omega) (by omega)]; omega
  have hsr := shr_32 w (8 * k) (by omega)
  have hc8 : IntKind.u8.wrap (un (w >>> (8 * k))) = ((bt w k).toNat : Int) := by
    have := wrap_u8n (w >>> (8 * k)).toNat
    simp only [un] at this ⊢
    rw [this]
    simp [bt]
  have hle : (le4 w).take (k + 1) = (le4 w).take k ++ [bt w k] := by
    match k, hk4 with
    | 0, _ | 1, _ | 2, _ | 3, _ => rfl
  have hln := skB_len (fun i => L.getD i 0) i
  have hlt4 : (byteRows (skB (fun i => L.getD i 0) i ++ (le4 w).take k)).length ≤ 4 * i + 4 := by
    rw [byteRows_len, List.length_append, List.length_take, hln]
    omega
  obtain ⟨v3, s3, hap, hT3, ho3⟩ := hT2.push (bytes := 1) (by decide) (byteRows_fit _) (y := [.int .u8 (bt w k).toNat]) rfl (by have := hlt4; omega) (by have := hlt4; omega)
  rw [show byteRows (skB (fun i => L.getD i 0) i ++ (le4 w).take k) ++ [[.int .u8 (bt w k).toNat]] = byteRows (skB (fun i => L.getD i 0) i ++ (le4 w).take (k + 1)) by rw [hle, ← List.append_assoc, byteRows_app _ [bt w k]]; rfl] at hT3
  obtain ⟨k8, hk8⟩ : ∃ k8, 8 * k = k8 := ⟨_, rfl⟩
  rw [hk8] at h8 hsr hc8
  clear hk4
  simp -implicitDefEqProofs [hkk, c41_l5, c41_k4, c41_k3, c41_k2, c41_k1, h8, hsr, hc8, repl, rowsOf, frzV]
  refine i_app_f (v := v3) (s := s3) ?_ ?_
  · simp -implicitDefEqProofs [V.rows]
    exact hap none
  simp -implicitDefEqProofs [wrap_i64 (n := (k : Int) + 1) (by omega) (by omega)]
  exact ⟨4 - (k + 1), by omega, k + 1, v3, by rw [hgw]; rfl, rfl, by omega, by rw [hgw]; exact hT3⟩
theorem s_bytesOfR {σ : St} {y : Nat} {v : V} {L : List W32} (h : SkR σ y v L) (hn : L.length ≤ 1000) : Dn.Call Γ cx .rd 18 [.ref y 0] σ fun v _ => ∃ d, v = .d d ∧ LV (.d d) (byteRows (bL L)) := by
  refine Dn.Call.body (fc := c18) rfl ?_
  simp -implicitDefEqProofs [c18, c18_k2, eqV, V.isNil, Opd.isC, c18_k1, c18_k0, nilCheckV, h.o]
  refine use_rd' (s_bytesR h.r hn) fun v s ⟨d, hv, hd⟩ => ?_
  subst hv
  simp -implicitDefEqProofs
  exact ⟨⟨fun i hi => rfl, fun t k ht => ht⟩, hd⟩
theorem s_rBytesL {x : D} {L : List W32} (hn : L.length ≤ 1000) (hx : PL x L) : Dn.Call Γ cx .val 20 [.d x] St.empty fun v _ => ∃ d, v = .d d ∧ LV (.d d) (byteRows (bL L)) :=
  s_rBytes hn (by rw [← pR_w]; exact hx)
theorem conv_bytes {σ : St} {d : D} {l : List UInt8} (h : LV (.d d) (byteRows l)) : evalConv σ .bytesStr (.d d) = some (.d (.str l)) := by
  simp only [evalConv, h.rows σ, rowBytes_byteRows]

theorem Valid.sorted_unique {L T T' : List W32} (h : Valid L T) (h' : Valid L T') (s : T.Pairwise fun a b => un a ≤ un b) (s' : T'.Pairwise fun a b => un a ≤ un b) : T = T' :=
  List.Perm.eq_of_pairwise (le := fun a b => un a ≤ un b) (fun a b _ _ h1 h2 => by rw [← wof_un a, ← wof_un b, show un a = un b by omega]) s s' (h.unique h')
theorem alive_valid : Valid (fnL 2 (osum [1#32, 2#32])) [1#32, 2#32] := ⟨by decide, by decide, by rw [fnL_len]; simp, fun k hk => by
  rw [fnL_len] at hk
  rw [fnL_co _ hk]⟩
theorem alive_bytes : bL (fnL 2 (osum [1#32, 2#32])) = [3, 0, 0, 0, 9, 0, 0, 0] := by decide +kernel
theorem s_alive : Dn.Call Γ cx .val 9 [] St.empty fun v _ => v = B true := by
  refine Dn.Call.body (fc := c9) rfl ?_
  have hids : [1#32, 2#32].map un = [1, 2] := rfl
  have hur : uRows [1, 2] = [[.int .u32 1], [.int .u32 2]] := rfl
  simp -implicitDefEqProofs [c9, c9_k4, isObj, repl, rowsOf, frzV]
  refine use_raw (s_skNew (n := 2) (ids := [1, 2]) (by omega) (by omega) (v := .fl [[.int .u32 1], [.int .u32 2]]) (.fl _) (by simp) (by simp) (by simp)) fun w s ⟨hw, hSk, hf, ht⟩ => ?_
  subst hw
  rw [← hids, acc_osum] at hSk
  have hR := hSk.toR (by omega)
  simp at hR
  simp -implicitDefEqProofs [c9_k3, eqV, V.isNil, Opd.isC, c9_k2, c9_k1]
  refine use_raw (s_Decode hR (by rw [fnL_len]; omega) (by rw [fnL_len]; omega)) fun w s2 ⟨hd, hf2, ht2⟩ => ?_
  have hR2 := hR.fr hf2
  rcases hd with ⟨-, h1⟩ | ⟨d, T, rfl, h1, h2, h3⟩
  · exact absurd alive_valid (h1 _)
  have hT := h2.sorted_unique alive_valid h3 (by decide)
  subst hT
  have hw := s_WordsW (X := [1#32, 2#32]) (Y := [1#32, 2#32]) (y := .list [[.int .u32 1], [.int .u32 2]]) h1 (.list _) (by simp) (by simp)
  simp at hw
  simp -implicitDefEqProofs [c9_k0, eqV, V.isNil, Opd.isC, isObj, repl, rowsOf, frzV]
  refine use_fn (ds := [.d d, .d (.list [[.int .u32 1], [.int .u32 2]])]) rfl hw rfl ?_
  simp -implicitDefEqProofs
  refine use_rd' (s_bytesOfR hR2 (by rw [fnL_len]; omega)) fun w s3 ⟨x, hw, hx⟩ => ?_
  subst hw
  rw [alive_bytes] at hx
  have hcv := fun σ => conv_bytes (σ := σ) hx
  simp -implicitDefEqProofs [-evalConv, hcv, strBin]
end Go.Proofs.Ytmlkdfjojoophaa.T

namespace Go.Proofs.Ytmlkdfjojoophaa.T
open Go.Dn
set_option linter.unusedSimpArgs false
set_option linter.unusedVariables false

theorem lv_list {d : D} {rows : List (List D)} (h : LV (.d d) rows) (hne : rows ≠ []) : d = .list rows := by
  cases h with
  | nil => exact absurd rfl hne
  | list => rfl
theorem skB_ne (f : Nat → W32) {n : Nat} (h : 1 ≤ n) : byteRows (skB f n) ≠ [] := by
  intro e
  have := congrArg List.length e
  rw [byteRows_len, skB_len] at this
  simp at this
  omega

abbrev wordsK : Lk := .list [.int .u32]
theorem words_fit {d : D} (h : wordsK.fits d) : ∃ L : List W32, PL d L := by
  simp only [Lk.fits] at h
  rcases h with rfl | ⟨rows, rfl, -, hr⟩
  · exact ⟨[], .nil⟩
  · have : ∀ rows : List (List D), (∀ row ∈ rows, Lks [.int .u32] row) → ∃ L : List W32, rows = pR L := by
      intro rows
      induction rows with
      | nil => exact fun _ => ⟨[], rfl⟩
      | cons r rows ih =>
        intro h
        obtain ⟨L, rfl⟩ := ih fun row hr => h row (by simp [hr])
        have h0 := h r (by simp)
        simp only [Lks, Lk.fits] at h0
        obtain ⟨d, _, rfl, ⟨n, rfl, h1, h2⟩, rfl⟩ := h0
        have e1 : IntKind.u32.min = 0 := rfl
        have e2 : IntKind.u32.max = 4294967295 := rfl
        refine ⟨wof n :: L, ?_⟩
        simp only [pR, List.map_cons]
        rw [un_wof (by omega) (by omega)]
    obtain ⟨L, rfl⟩ := this rows hr
    exact ⟨L, .list _⟩
theorem bytes_fit {d : D} (h : (Lk.list [.int .u8]).fits d) : ∃ l : List UInt8, LV (.d d) (byteRows l) := by
  simp only [Lk.fits] at h
  rcases h with rfl | ⟨rows, rfl, -, hr⟩
  · exact ⟨[], .nil⟩
  · obtain ⟨l, rfl⟩ := bytes_of_fits hr
    exact ⟨l, .list _⟩
end Go.Proofs.Ytmlkdfjojoophaa.T

namespace Go.Proofs.Ytmlkdfjojoophaa.T
open Go.Dn
attribute [local simp] body_eq globEnv GB List.map_nil List.map_cons List.append_nil w_rangeF i_next i_makeMap i_range i_update i_delete i_entry i_clone entryV cloneV q_rndA q_rndB_n q_rndB_e q_rndB_r setAll w_skip w_ops w_seq w_cond w_block w_exit w_ret q_then_n q_then_e q_then_r q_blk_n q_blk_e q_blk_r q_ops q_cont q_end_n q_end_r q_end_e q_loop_n q_loop_e q_loop_r i_nil i_p i_alloc i_box i_store i_copy i_clear i_call i_callv i_when t_nil t_p t_call t_alloc t_box t_store kept_nil t_copy t_clear q_tcont gsel List.cons_append List.nil_append evalP evalE evalF evalB isObj thaw Opd.ev Env.get Env.set Env.pick putE initEnv evalBin intBin evalUn evalConv goneAll goneOne retV resAll Res.ev tupOf byVals byValsN bv_d bv_da bv_fl bv_tl bn_d bn_da bn_fl bn_tl cx Dn.newObj St.place St.push St.spot St.empty cell_d cell_da cell_agg cell_ref cell_sl cell_fl cell_tl cell_map cell_fn cell_ifc loadAt faddrV partOf extractV mkAgg ofD splice St.setObj fillV
set_option linter.unusedSimpArgs false
set_option linter.unusedVariables false
open Sip (num num_lt num_take)

def w4 (l : List UInt8) : W32 := BitVec.ofNat 32 (num l)
def chk (l : List UInt8) (i : Nat) : List UInt8 := (l.drop (i * 4)).take 4
def wds (l : List UInt8) (n : Nat) : List W32 := fnL n fun i => w4 (chk l i)
def words (l : List UInt8) : List W32 := wds l (l.length / 4)
theorem wds_len (l : List UInt8) (n : Nat) : (wds l n).length = n := fnL_len _ _
theorem words_len (l : List UInt8) : (words l).length = l.length / 4 := wds_len _ _
theorem wds_succ (l : List UInt8) (n : Nat) : wds l (n + 1) = wds l n ++ [w4 (chk l n)] := by simp [wds, fnL, List.range_succ]
theorem chk_len {l : List UInt8} {i : Nat} (h : i * 4 + 4 ≤ l.length) : (chk l i).length = 4 := by simp [chk]; omega
theorem num_bound {l : List UInt8} (h : l.length ≤ 4) : num l < 4294967296 := by
  have := num_lt l
  have h2 : 256 ^ l.length ≤ 256 ^ 4 := Nat.pow_le_pow_right (by decide) h
  omega
theorem un_w4 {l : List UInt8} (h : l.length ≤ 4) : un (w4 l) = (num l : Int) := by
  have := num_bound h
  simp only [un, w4, BitVec.toNat_ofNat]
  rw [Nat.mod_eq_of_lt (by omega)]
theorem four (l : List UInt8) (h : l.length = 4) : ∃ a b c d, l = [a, b, c, d] := by
  match l, h with
  | [a, b, c, d], _ => exact ⟨a, b, c, d, rfl⟩
theorem le4_w4 {l : List UInt8} (h : l.length = 4) : le4 (w4 l) = l := by
  obtain ⟨a, b, c, d, rfl⟩ := four l h
  have ha := a.toNat_lt
  have hb := b.toNat_lt
  have hc := c.toNat_lt
  have hd := d.toNat_lt
  have hn : (w4 [a, b, c, d]).toNat = a.toNat + 256 * (b.toNat + 256 * (c.toNat + 256 * d.toNat)) := by
    have : num [a, b, c, d] = a.toNat + 256 * (b.toNat + 256 * (c.toNat + 256 * d.toNat)) := by simp [num]
    simp only [w4, BitVec.toNat_ofNat, this]
    omega
  unfold le4
  have e0 : bt (w4 [a, b, c, d]) 0 = a := UInt8.toNat_inj.1 (by rw [bt_nat, hn]; simp <;> omega)
  have e1 : bt (w4 [a, b, c, d]) 1 = b := UInt8.toNat_inj.1 (by rw [bt_nat, hn]; simp <;> omega)
  have e2 : bt (w4 [a, b, c, d]) 2 = c := UInt8.toNat_inj.1 (by rw [bt_nat, hn]; simp <;> omega)
  have e3 : bt (w4 [a, b, c, d]) 3 = d := UInt8.toNat_inj.1 (by rw [bt_nat, hn]; simp <;> omega)
  rw [e0, e1, e2, e3]
theorem w4_le4 (w : W32) : w4 (le4 w) = w := by
  have hz := w.isLt
  have : num (le4 w) = w.toNat := by
    have b0 := bt_nat w 0
    have b1 := bt_nat w 1
    have b2 := bt_nat w 2
    have b3 := bt_nat w 3
    simp only [le4, num]
    simp at b0 b1 b2 b3
    omega
  unfold w4
  rw [this]
  simp
theorem skB_chk (f : Nat → W32) : ∀ {n i : Nat}, i < n → chk (skB f n) i = le4 (f i)
  | 0, i, h => by omega
  | n + 1, i, h => by
    have hl := skB_len f n
    simp only [skB]
    by_cases hi : i < n
    · rw [← skB_chk f hi]
      unfold chk
      rw [List.drop_append_of_le_length (by omega), List.take_append_of_le_length (by simp; omega)]
    · obtain rfl : i = n := by omega
      unfold chk
      rw [List.drop_append, List.drop_of_length_le (by omega), hl, show i * 4 - 4 * i = 0 by omega]
      rfl
theorem words_bL (L : List W32) : words (bL L) = L := by
  have hl : (bL L).length = 4 * L.length := skB_len _ _
  refine Gf.list_ext_co (by rw [words_len, hl]; omega) fun k hk => ?_
  rw [words_len, hl] at hk
  have hk2 : k < L.length := by omega
  unfold words wds
  rw [fnL_co _ (by rw [hl]; omega)]
  unfold bL
  rw [skB_chk _ hk2, w4_le4]
theorem skB_words (l : List UInt8) : ∀ {n : Nat}, n * 4 ≤ l.length → skB (fun i => w4 (chk l i)) n = l.take (n * 4)
  | 0, _ => by simp [skB]
  | n + 1, h => by
    simp only [skB]
    rw [skB_words l (by omega), le4_w4 (chk_len (by omega)), show (n + 1) * 4 = n * 4 + 4 by omega, List.take_add]
    rfl
theorem bL_words {l : List UInt8} (h : l.length % 4 = 0) : bL (words l) = l := by
  unfold words wds
  rw [bL_fn, skB_words l (by omega), List.take_of_length_le (by omega)]

def sumE : Env := [(4, .ref 0 0)]
def InvSm (d : D) (l : List UInt8) (i : Nat) (s : St) : Prop := ∃ v tk, s = ⟨[.cells [v], .cells [.d d], .cells [I 4], .loop sumE [15] c42_a1 c42_b11 .ready], tk⟩ ∧ App s 1 v (pR (wds l i))
theorem sums_a {e : Env} {s : St} {Q : PostC} (h : Q .normal ((putE e (some 5) (e.get 15)).pick [4, 5]) s) : wcode (Dn.Call Γ cx) cx c42_a1 e s Q := by
  simp only [c42_a1, w_ops, i_p, isObj, Bool.false_eq_true, if_false, evalP, Opd.ev, i_nil, q_ops]
  exact h
theorem or_nat32 (m c i : Nat) (hm : m < 2 ^ (8 * i)) (hi : i < 4) (hc : c < 256) : bits .or .u32 (m : Int) ((c * 2 ^ (8 * i) : Nat) : Int) = ((m + c * 2 ^ (8 * i) : Nat) : Int) := by
  have hp : 2 ^ (8 * i) * 256 ≤ 2 ^ 32 := by
    have : 2 ^ (8 * i) * 2 ^ 8 = 2 ^ (8 * i + 8) := by rw [← Nat.pow_add]
    have h2 : 2 ^ (8 * i + 8) ≤ 2 ^ 32 := Nat.pow_le_pow_right (by decide) (by omega)
    omega
  have hcm : c * 2 ^ (8 * i) ≤ 255 * 2 ^ (8 * i) := Nat.mul_le_mul_right _ (by omega)
  have e1 : (m : Int) = un (BitVec.ofNat 32 m) := by
    simp only [un, BitVec.toNat_ofNat]
    rw [Nat.mod_eq_of_lt (by omega)]
  have e2 : ((c * 2 ^ (8 * i) : Nat) : Int) = un (BitVec.ofNat 32 (c * 2 ^ (8 * i))) := by
    simp only [un, BitVec.toNat_ofNat]
    rw [Nat.mod_eq_of_lt (by omega)]
  rw [e1, e2, or_u32]
  simp only [un, BitVec.toNat_or, BitVec.toNat_ofNat]
  rw [Nat.mod_eq_of_lt (by omega), Nat.mod_eq_of_lt (by omega)]
  have := Nat.two_pow_add_eq_or_of_lt hm c
  rw [Nat.or_comm, Nat.mul_comm c, ← this, Nat.add_comm]
def InvCk (l : List UInt8) (sx : St) (m : Nat) (e : Env) (s : St) : Prop := ∃ i : Nat, e = [(4, .ref 0 0), (6, X (num (l.take i))), (16, .fl (byteRows l)), (17, I l.length), (18, I i)] ∧ i ≤ l.length ∧ m = l.length - i ∧ s = sx
theorem sums_b {s s' : St} {v v' : V} {l : List UInt8} {Q : PostC} (h0 : s.objs[0]? = some (.cells [v])) (hl : l.length ≤ 4) (hap : ∀ tg, appendV s tg 1 4 v (pR [w4 l]) = some (v', s')) (ho : s'.objs = s.objs) (hc : v'.cells = some [v'])
    (hQ : Q .normal [] ⟨s.objs.set 0 (.cells [v']), s'.toks⟩) : wcode (Dn.Call Γ cx) cx c42_b11 [(4, .ref 0 0), (5, .fl (byteRows l))] s Q := by
  have hv : LV (.fl (byteRows l)) (byteRows l) := .fl _
  have hlen : ∀ σ, lenT σ .slice (.fl (byteRows l)) = some l.length := fun σ => by rw [hv.len, byteRows_len]
  simp -implicitDefEqProofs [c42_b11, c42_k10, c42_k9, c42_k8, hlen]
  refine wloopI (InvCk l s) (m := l.length) ⟨0, rfl, by omega, by omega, rfl⟩ ?_
  rintro m e σ ⟨i, rfl, hi, rfl, rfl⟩
  simp -implicitDefEqProofs [c42_l7, c42_k6]
  by_cases hil : i < l.length
  rotate_left
  · obtain rfl : i = l.length := by omega
    have hun := un_w4 hl
    have h0' : s'.objs[0]? = some (.cells [v]) := by rw [ho]; exact h0
    simp -implicitDefEqProofs [c42_k2, h0, repl, rowsOf, frzV]
    refine i_app_f (v := v') (s := s') ?_ ?_
    · have := hap none
      simp only [pR, List.map_cons, List.map_nil, hun] at this
      simp [evalE, Opd.ev, Env.get, V.rows]
      exact this
    simp -implicitDefEqProofs [h0', hc]
    rw [ho]
    exact hQ
  obtain ⟨b, hb⟩ : ∃ b, l[i]? = some b := ⟨l[i], by simp [hil]⟩
  have hia := fun σ => hv.iaddr σ (k := .i64) (i := i) (byteRows_at hb) (sz := 1) rfl
  have hbl := b.toNat_lt
  have hnt := num_take hb
  have hnl := num_lt (l.take i)
  have e256 : 256 ^ i = 2 ^ (8 * i) := by rw [show 256 = 2 ^ 8 from rfl, ← Nat.pow_mul]
  rw [List.length_take, Nat.min_eq_left hi, e256] at hnl
  rw [e256] at hnt
  have hor := or_nat32 (num (l.take i)) b.toNat i hnl (by omega) hbl
  have w1 : IntKind.u32.wrap (b.toNat : Int) = (b.toNat : Int) := by
    simp only [IntKind.wrap, IntKind.signed, IntKind.bits]; simp; omega
  have w2 : IntKind.i64.wrap (8 * (i : Int)) = ((8 * i : Nat) : Int) := by rw [wrap_i64 (by omega) (by omega)]; omega
  have hsh : shiftBin .shl .u32 (b.toNat : Int) ((8 * i : Nat) : Int) = some (X ((b.toNat * 2 ^ (8 * i) : Nat) : Int)) := by
    have e1 : (b.toNat : Int) = un (BitVec.ofNat 32 b.toNat) := by
      simp only [un, BitVec.toNat_ofNat]
      rw [Nat.mod_eq_of_lt (by omega)]
    rw [e1, shl_32 _ _ (by omega)]
    have hp : 2 ^ (8 * i) * 256 ≤ 2 ^ 32 := by
      have : 2 ^ (8 * i) * 2 ^ 8 = 2 ^ (8 * i + 8) := by rw [← Nat.pow_add]
      have h2 : 2 ^ (8 * i + 8) ≤ 2 ^ 32 := Nat.pow_le_pow_right (by decide) (by omega)
      omega
    have hcm : b.toNat * 2 ^ (8 * i) ≤ 255 * 2 ^ (8 * i) := Nat.mul_le_mul_right _ (by omega)
    simp only [Xw, X, un, BitVec.toNat_shiftLeft, BitVec.toNat_ofNat, Nat.shiftLeft_eq]
    rw [Nat.mod_eq_of_lt (a := b.toNat) (by omega), Nat.mod_eq_of_lt (by omega)]
  obtain ⟨sh, hshd⟩ : ∃ sh : Nat, 8 * i = sh := ⟨_, rfl⟩
  rw [hshd] at w2 hsh hor hnt
  obtain ⟨y, hy⟩ : ∃ y : Nat, b.toNat * 2 ^ sh = y := ⟨_, rfl⟩
  rw [hy] at hsh hor
  rw [Nat.mul_comm, hy] at hnt
  rw [← hnt] at hor
  simp -implicitDefEqProofs [hil, c42_k5, c42_k4, hia, c42_k3, w1, w2, hsh, hor, wrap_i64 (n := (i : Int) + 1) (by omega) (by omega)]
  exact ⟨l.length - (i + 1), by omega, i + 1, rfl, by omega, rfl, rfl⟩
theorem app_vcells {s : St} {sz : Nat} {v : V} {rows : List (List D)} (h : App s sz v rows) : v.cells = some [v] := by
  cases h <;> rfl
def sumS (v : V) (d : D) (tk : List Nat) (st : Dn.LSt) : St := ⟨[.cells [v], .cells [.d d], .cells [I 4], .loop sumE [15] c42_a1 c42_b11 st], tk⟩
theorem s_sums {d : D} {l : List UInt8} (hd : LV (.d d) (byteRows l)) (hl : l.length ≤ 100000) : Dn.Call Γ cx .val 42 [.d d] St.empty fun w _ => (l.length % 4 ≠ 0 ∧ w = .tup [.d .nils, B false]) ∨ (l.length % 4 = 0 ∧ ∃ x, w = .tup [.d x, B true] ∧ PL x (words l)) := by
  refine Dn.Call.body (fc := c42) rfl ?_
  have hlen : ∀ σ, lenT σ .slice (.d d) = some l.length := fun σ => by rw [hd.len, byteRows_len]
  have hrem : (l.length : Int).tmod 4 = ((l.length % 4 : Nat) : Int) := rfl
  have hbl := byteRows_len l
  by_cases h4 : l.length % 4 = 0
  rotate_left
  · have e0 : ¬ (((l.length % 4 : Nat) : Int) = 0) := by omega
    obtain ⟨q, hq⟩ : ∃ q, l.length % 4 = q := ⟨_, rfl⟩
    rw [hq] at hrem h4 e0
    simp -implicitDefEqProofs [c42, c42_k16, hlen, hrem, h4, e0, c42_k15]
    omega
  have hrem0 : (l.length : Int).tmod 4 = 0 := by rw [hrem, h4]; rfl
  simp -implicitDefEqProofs [c42, c42_k16, hlen, hrem0, c42_k15, c42_k14, c42_k13]
  refine use_raw (s_Chunk (v := .d d) (n := 4) (by omega) rfl) fun w s ⟨hw, hs⟩ => ?_
  subst hw hs
  simp -implicitDefEqProofs [c42_k12]
  refine ⟨_, s_Chunk1 (n := 4) (by omega) (by omega) hd (byteRows_fit _) (by rintro r t st s h; cases h) (by omega) (InvSm d l) ?_ ?_ ?_, ?_⟩
  · exact ⟨_, _, rfl, .nil⟩
  · rintro i s ⟨v, tk, rfl, hA⟩
    exact ⟨rfl, rfl⟩
  · rintro i s ⟨v, tk, rfl, hA⟩ hi
    rw [hbl] at hi
    refine Call.rnd (e := sumE) (ps := [15]) (a := c42_a1) (b := c42_b11) rfl rfl ?_
    refine sums_a ?_
    simp only [q_rndA]
    refine ⟨rfl, ?_⟩
    rw [byteRows_drop, byteRows_take]
    have hcl : (chk l i).length = 4 := chk_len (by omega)
    have hA2 : App (sumS v d tk .busy) 1 v (pR (wds l i)) := hA.toks rfl
    obtain ⟨v2, s2, p2, a2, o2, -, -⟩ := hA2.push (bytes := 4) (by decide) (pR_fit _) (ys := pR [w4 (chk l i)]) (pR_fit _) (by simp [pR_len, wds_len]; omega) (by simp [pR_len, wds_len]; omega)
    rw [← pR_app, ← wds_succ] at a2
    refine sums_b (s := sumS v d tk .busy) (l := chk l i) rfl (by omega) p2 o2 (app_vcells a2) ?_
    simp only [q_rndB_n]
    exact ⟨rfl, trivial, v2, s2.toks, rfl, a2.toks rfl⟩
  · rintro w s ⟨k, ⟨v, tk, rfl, hA⟩, hk1, hk2⟩
    refine rfQ_ready rfl ?_
    rw [hbl] at hk1 hk2
    have hk4 : k = l.length / 4 := by
      have := hk2 (k - 1)
      rcases Nat.eq_zero_or_pos k with h | h
      · omega
      · have := this (by omega)
        omega
    subst hk4
    have hdv := fun s => hA.lv.dv s
    obtain ⟨x, hx⟩ := (hdv St.empty).2.2.1
    simp -implicitDefEqProofs [c42_k0, sumE, (fun s => (hdv s).1), h4]
    refine ⟨x, hx, ?_⟩
    have := (hdv St.empty).2.1
    rw [hx] at this
    exact this

def badB (l : List UInt8) : Prop := l.length % 4 ≠ 0 ∨ l.length / 4 < 1 ∨ 40 < l.length / 4
theorem s_Read {σ : St} {d : D} {l : List UInt8} (hd : LV (.d d) (byteRows l)) (hl : l.length ≤ 100000) : Dn.Call Γ cx .raw 19 [.d d] σ fun w s => (badB l ∧ w = .tup [.d .nilp, errV 2] ∧ s = σ) ∨ (¬ badB l ∧ ∃ y x, w = .tup [.ref y 0, .d .nili] ∧ PL x (words l) ∧ SkR s y (.d x) (words l) ∧ Fr [] σ s ∧ s.toks = σ.toks) := by
  refine Dn.Call.body (fc := c19) rfl ?_
  have e2 : errV 2 = .d (.iface 39 (.int .i64 2)) := rfl
  simp -implicitDefEqProofs [c19, c19_k3]
  refine use_val (ds := [.d d]) rfl (s_sums hd hl) fun w s hw => ?_
  rcases hw with ⟨h4, rfl⟩ | ⟨h4, x, rfl, hx⟩
  · refine ⟨rfl, fun h => Bool.noConfusion (show false = true from h), ?_⟩
    simp -implicitDefEqProofs [c19_k2, c19_k1, mkifV]
    exact ⟨.inl h4, e2.symm⟩
  have hlx : ∀ σ, lenT σ .slice (.d x) = some (words l).length := fun σ => by rw [hx.len, pR_len]
  have hwl := words_len l
  refine ⟨rfl, fun h => Bool.noConfusion (show false = true from h), ?_⟩
  by_cases h1 : l.length / 4 < 1
  · have hI : ((words l).length : Int) < 1 := by omega
    simp -implicitDefEqProofs [c19_k2, hlx, hI, c19_k1, mkifV]
    exact ⟨.inr (.inl h1), e2.symm⟩
  by_cases h2 : 40 < l.length / 4
  · have hI : ¬ ((words l).length : Int) < 1 := by omega
    have hI2 : (40 : Int) < (words l).length := by omega
    simp -implicitDefEqProofs [c19_k2, hlx, hI, hI2, c19_k1, mkifV]
    exact ⟨.inr (.inr h2), e2.symm⟩
  have hI : ¬ ((words l).length : Int) < 1 := by omega
  have hI2 : ¬ (40 : Int) < (words l).length := by omega
  simp -implicitDefEqProofs [c19_k2, hlx, hI, hI2, c19_k1, c19_k0]
  refine ⟨by unfold badB; omega, x, hx, ⟨by simp, .lv hx (by rintro r t st s h; cases h), by rintro r t st s h; cases h⟩, Fr.push1 _ _⟩

def InvRs (d : D) (l : List UInt8) (m : Nat) (e : Env) (s : St) : Prop := ∃ (i : Nat) (v : V), e = [(0, .d d), (4, v), (5, I (4 * i : Nat))] ∧ m = l.length - 4 * i ∧ 4 * i ≤ l.length ∧ App s 1 v (pR (wds l i))
theorem chk_num {l : List UInt8} {i : Nat} {a b c d : UInt8} (h0 : l[4 * i]? = some a) (h1 : l[4 * i + 1]? = some b) (h2 : l[4 * i + 2]? = some c) (h3 : l[4 * i + 3]? = some d) : num (chk l i) = a.toNat + 256 * b.toNat + 65536 * c.toNat + 16777216 * d.toNat := by
  have : chk l i = [a, b, c, d] := by
    apply List.ext_getElem?
    intro k
    unfold chk
    rw [List.getElem?_take]
    by_cases hk : k < 4
    · rw [if_pos hk, List.getElem?_drop, show i * 4 + k = 4 * i + k by omega]
      match k, hk with
      | 0, _ => simpa using h0
      | 1, _ => simpa using h1
      | 2, _ => simpa using h2
      | 3, _ => simpa using h3
    · rw [if_neg hk]
      simp
      omega
  rw [this]
  simp only [num]
  omega
theorem s_rSums {d : D} {l : List UInt8} (hd : LV (.d d) (byteRows l)) (hl : l.length ≤ 100000) : Dn.Call Γ cx .val 22 [.d d] St.empty fun w _ => (l.length % 4 ≠ 0 ∧ w = .tup [.d .nils, B false]) ∨ (l.length % 4 = 0 ∧ ∃ x, w = .tup [.d x, B true] ∧ PL x (words l)) := by
  refine Dn.Call.body (fc := c22) rfl ?_
  have hlen : ∀ σ, lenT σ .slice (.d d) = some l.length := fun σ => by rw [hd.len, byteRows_len]
  have hrem : (l.length : Int).tmod 4 = ((l.length % 4 : Nat) : Int) := rfl
  have hbl := byteRows_len l
  by_cases h4 : l.length % 4 = 0
  rotate_left
  · obtain ⟨q, hq⟩ : ∃ q, l.length % 4 = q := ⟨_, rfl⟩
    rw [hq] at hrem h4
    have e0 : ¬ ((q : Int) = 0) := by omega
    simp -implicitDefEqProofs [c22, c22_k10, hlen, hrem, h4, e0, c22_k9]
    omega
  have hrem0 : (l.length : Int).tmod 4 = 0 := by rw [hrem, h4]; rfl
  simp -implicitDefEqProofs [c22, c22_k10, hlen, hrem0, c22_k9, c22_k8, c22_k7, c22_k6]
  refine wloopI (InvRs d l) (m := l.length) ⟨0, _, rfl, by omega, by omega, .nil⟩ ?_
  rintro m e s ⟨i, v, rfl, rfl, hi, hA⟩
  have w3 : IntKind.i64.wrap (((4 * i : Nat) : Int) + 3) = ((4 * i + 3 : Nat) : Int) := by rw [wrap_i64 (by omega) (by omega)]; omega
  have w1 : IntKind.i64.wrap (((4 * i : Nat) : Int) + 1) = ((4 * i + 1 : Nat) : Int) := by rw [wrap_i64 (by omega) (by omega)]; omega
  have w2 : IntKind.i64.wrap (((4 * i : Nat) : Int) + 2) = ((4 * i + 2 : Nat) : Int) := by rw [wrap_i64 (by omega) (by omega)]; omega
  have w5 : IntKind.i64.wrap (((4 * i : Nat) : Int) + 4) = ((4 * (i + 1) : Nat) : Int) := by rw [wrap_i64 (by omega) (by omega)]; omega
  obtain ⟨p, hp⟩ : ∃ p, 4 * i = p := ⟨_, rfl⟩
  obtain ⟨p', hp'⟩ : ∃ p', 4 * (i + 1) = p' := ⟨_, rfl⟩
  obtain ⟨p1, hp1⟩ : ∃ p1, p + 1 = p1 := ⟨_, rfl⟩
  obtain ⟨p2, hp2⟩ : ∃ p2, p + 2 = p2 := ⟨_, rfl⟩
  obtain ⟨p3, hp3⟩ : ∃ p3, p + 3 = p3 := ⟨_, rfl⟩
  rw [hp'] at w5
  rw [hp] at w1 w2 w3 w5 ⊢
  rw [hp1] at w1
  rw [hp2] at w2
  rw [hp3] at w3
  by_cases hlt : p3 < l.length
  rotate_left
  · have hI : ¬ ((p3 : Int) < l.length) := by omega
    have hk : i = l.length / 4 := by omega
    subst hk
    have hdv := fun s => hA.lv.dv s
    obtain ⟨x, hx⟩ := (hdv St.empty).2.2.1
    simp -implicitDefEqProofs [c22_l5, hlen, w3, hI, hlt, c22_k4, c22_k0, (fun s => (hdv s).1), h4]
    refine ⟨x, hx, ?_⟩
    have := (hdv St.empty).2.1
    rw [hx] at this
    exact this
  have hI : (p3 : Int) < l.length := by omega
  obtain ⟨a, ha⟩ : ∃ a, l[p]? = some a := ⟨_, List.getElem?_eq_getElem (by omega)⟩
  obtain ⟨b, hb⟩ : ∃ b, l[p1]? = some b := ⟨_, List.getElem?_eq_getElem (by omega)⟩
  obtain ⟨c, hc⟩ : ∃ c, l[p2]? = some c := ⟨_, List.getElem?_eq_getElem (by omega)⟩
  obtain ⟨z, hz⟩ : ∃ z, l[p3]? = some z := ⟨_, List.getElem?_eq_getElem (by omega)⟩
  have ia := fun σ => hd.iaddr σ (k := .i64) (i := p) (byteRows_at ha) (sz := 1) rfl
  have ib := fun σ => hd.iaddr σ (k := .i64) (i := p1) (byteRows_at hb) (sz := 1) rfl
  have ic := fun σ => hd.iaddr σ (k := .i64) (i := p2) (byteRows_at hc) (sz := 1) rfl
  have iz := fun σ => hd.iaddr σ (k := .i64) (i := p3) (byteRows_at hz) (sz := 1) rfl
  have hnum := chk_num (l := l) (i := i) (by rw [hp]; exact ha) (by rw [hp, hp1]; exact hb) (by rw [hp, hp2]; exact hc) (by rw [hp, hp3]; exact hz)
  have la := a.toNat_lt
  have lb := b.toNat_lt
  have lc := c.toNat_lt
  have lz := z.toNat_lt
  have w32 : ∀ m : Nat, m < 4294967296 → IntKind.u32.wrap (m : Int) = m := fun m hm => by
    simp only [IntKind.wrap, IntKind.signed, IntKind.bits]; simp; omega
  have ca := w32 a.toNat (by omega)
  have cb := w32 b.toNat (by omega)
  have cc := w32 c.toNat (by omega)
  have cz := w32 z.toNat (by omega)
  have mb : IntKind.u32.wrap (256 * (b.toNat : Int)) = ((256 * b.toNat : Nat) : Int) := by
    rw [show 256 * (b.toNat : Int) = ((256 * b.toNat : Nat) : Int) by omega]
    exact w32 _ (by omega)
  have mc : IntKind.u32.wrap (65536 * (c.toNat : Int)) = ((65536 * c.toNat : Nat) : Int) := by
    rw [show 65536 * (c.toNat : Int) = ((65536 * c.toNat : Nat) : Int) by omega]
    exact w32 _ (by omega)
  have mz : IntKind.u32.wrap (16777216 * (z.toNat : Int)) = ((16777216 * z.toNat : Nat) : Int) := by
    rw [show 16777216 * (z.toNat : Int) = ((16777216 * z.toNat : Nat) : Int) by omega]
    exact w32 _ (by omega)
  obtain ⟨na, hna⟩ : ∃ n, a.toNat = n := ⟨_, rfl⟩
  obtain ⟨nb, hnb⟩ : ∃ n, b.toNat = n := ⟨_, rfl⟩
  obtain ⟨nc, hnc⟩ : ∃ n, c.toNat = n := ⟨_, rfl⟩
  obtain ⟨nz, hnz⟩ : ∃ n, z.toNat = n := ⟨_, rfl⟩
  rw [hna] at la ca ia hnum
  rw [hnb] at lb cb ib mb hnum
  rw [hnc] at lc cc ic mc hnum
  rw [hnz] at lz cz iz mz hnum
  obtain ⟨kb, hkb⟩ : ∃ n, 256 * nb = n := ⟨_, rfl⟩
  obtain ⟨kc, hkc⟩ : ∃ n, 65536 * nc = n := ⟨_, rfl⟩
  obtain ⟨kz, hkz⟩ : ∃ n, 16777216 * nz = n := ⟨_, rfl⟩
  rw [hkb] at mb hnum
  rw [hkc] at mc hnum
  rw [hkz] at mz hnum
  have s1 : IntKind.u32.wrap ((na : Int) + kb) = ((na + kb : Nat) : Int) := by
    rw [show (na : Int) + kb = ((na + kb : Nat) : Int) by omega]
    exact w32 _ (by omega)
  obtain ⟨t1, ht1⟩ : ∃ n, na + kb = n := ⟨_, rfl⟩
  rw [ht1] at s1 hnum
  have s2 : IntKind.u32.wrap ((t1 : Int) + kc) = ((t1 + kc : Nat) : Int) := by
    rw [show (t1 : Int) + kc = ((t1 + kc : Nat) : Int) by omega]
    exact w32 _ (by omega)
  obtain ⟨t2, ht2⟩ : ∃ n, t1 + kc = n := ⟨_, rfl⟩
  rw [ht2] at s2 hnum
  have s3 : IntKind.u32.wrap ((t2 : Int) + kz) = ((t2 + kz : Nat) : Int) := by
    rw [show (t2 : Int) + kz = ((t2 + kz : Nat) : Int) by omega]
    exact w32 _ (by omega)
  obtain ⟨t3, ht3⟩ : ∃ n, t2 + kz = n := ⟨_, rfl⟩
  rw [ht3] at s3 hnum
  have hun : un (w4 (chk l i)) = (t3 : Int) := by rw [un_w4 (by rw [chk_len (by omega)]; exact Nat.le_refl _), hnum]
  have hA1 := hA.toks (room_toks s 1)
  obtain ⟨v2, s5, hap, happ, ho, -, -⟩ := hA1.push (bytes := 4) (by decide) (pR_fit _) (ys := pR [w4 (chk l i)]) (pR_fit _) (by simp [pR_len, wds_len]; omega) (by simp [pR_len, wds_len]; omega)
  rw [← pR_app, ← wds_succ] at happ
  simp -implicitDefEqProofs [c22_l5, hlen, w3, hI, hlt, c22_k4, c22_k3, c22_k2]
  refine w_drw (fun _ => .val) [] (by decide +kernel) ?_
  simp -implicitDefEqProofs [ia, ib, ic, iz, w1, w2, w3, ca, cb, cc, cz, mb, mc, mz, s1, s2, s3, repl, rowsOf, frzV]
  refine t_app_f (v := v2) (s := s5) ?_ ?_
  · have := fun tg => hap tg
    simp only [pR, List.map_cons, List.map_nil, hun] at this
    simp -implicitDefEqProofs [V.rows]
    exact this _
  simp -implicitDefEqProofs [c22_k1, w5]
  exact ⟨l.length - p', by omega, i + 1, v2, by rw [hp'], by rw [hp'], by omega, happ⟩
end Go.Proofs.Ytmlkdfjojoophaa.T

namespace Go.Proofs.Ytmlkdfjojoophaa.T
open Go.Dn
attribute [local simp] body_eq globEnv GB List.map_nil List.map_cons List.append_nil w_rangeF i_next i_makeMap i_range i_update i_delete i_entry i_clone entryV cloneV q_rndA q_rndB_n q_rndB_e q_rndB_r setAll w_skip w_ops w_seq w_cond w_block w_exit w_ret q_then_n q_then_e q_then_r q_blk_n q_blk_e q_blk_r q_ops q_cont q_end_n q_end_r q_end_e q_loop_n q_loop_e q_loop_r i_nil i_p i_alloc i_box i_store i_copy i_clear i_call i_callv i_when t_nil t_p t_call t_alloc t_box t_store kept_nil t_copy t_clear q_tcont gsel List.cons_append List.nil_append evalP evalE evalF evalB isObj thaw Opd.ev Env.get Env.set Env.pick putE initEnv evalBin intBin evalUn evalConv goneAll goneOne retV resAll Res.ev tupOf byVals byValsN bv_d bv_da bv_fl bv_tl bn_d bn_da bn_fl bn_tl cx Dn.newObj St.place St.push St.spot St.empty cell_d cell_da cell_agg cell_ref cell_sl cell_fl cell_tl cell_map cell_fn cell_ifc loadAt faddrV partOf extractV mkAgg ofD splice St.setObj fillV
set_option linter.unusedSimpArgs false
set_option linter.unusedVariables false

theorem s_Further {σ : St} {y : Nat} {v : V} {L : List W32} (h : SkR σ y v L) (hn : L.length ≤ 1000) (f : Int) : Dn.Call Γ cx .rd 25 [.ref y 0, I f] σ fun w _ => ((f < 0 ∨ L.length < f) ∧ w = .tup [.d .nils, errV 1]) ∨ (0 ≤ f ∧ f ≤ L.length ∧ ∃ d, w = .tup [.d d, .d .nili] ∧ LV (.d d) (byteRows (bL (L.drop f.toNat)))) := by
  refine Dn.Call.body (fc := c25) rfl ?_
  have hlv := fun σ => h.r.len σ
  have e1 : errV 1 = .d (.iface 39 (.int .i64 1)) := rfl
  by_cases g1 : f < 0
  · simp -implicitDefEqProofs [c25, c25_k2, eqV, V.isNil, Opd.isC, g1, c25_k1, mkifV]
    exact ⟨⟨fun i hi => rfl, fun t k ht => ht⟩, e1.symm⟩
  by_cases g2 : (L.length : Int) < f
  · simp -implicitDefEqProofs [c25, c25_k2, eqV, V.isNil, Opd.isC, g1, nilCheckV, h.o, hlv, g2, c25_k1, mkifV]
    exact ⟨⟨fun i hi => rfl, fun t k ht => ht⟩, e1.symm⟩
  obtain ⟨n, rfl⟩ : ∃ n : Nat, f = (n : Int) := ⟨f.toNat, by omega⟩
  have hnL : n ≤ L.length := by omega
  obtain ⟨z, z1, z2, -⟩ := rd_slice h.r hnL (Nat.le_refl _)
  have hz2 : (L.drop n).take (L.length - n) = L.drop n := List.take_of_length_le (by simp)
  rw [hz2] at z2
  have hsx : sliceX σ 1 v (some (I n)) none none = some z := by simp [sliceX, h.r.lenV, boundV, asIdx, z1, hnL]
  simp -implicitDefEqProofs [c25, c25_k2, eqV, V.isNil, Opd.isC, g1, nilCheckV, h.o, hlv, g2, c25_k1, c25_k0, hsx]
  refine use_rd' (s_bytesR z2 (by simp; omega)) fun w s ⟨d, hv, hd⟩ => ?_
  subst hv
  simp -implicitDefEqProofs
  exact ⟨⟨fun i hi => rfl, fun t k ht => ht⟩, hnL, hd⟩

theorem s_GrowN {σ : St} {n : Nat} (h1 : 1 ≤ n) (hn : n ≤ 1000) : Dn.Call Γ cx .raw 70 [.d .nils, I n] σ fun w s => ∃ r, w = .sl r 0 0 1 ∧ s.objs[r]? = some (.cells (wV (List.replicate n 0))) := by
  refine Dn.Call.body (fc := c70) rfl ?_
  have w1 : IntKind.i64.wrap (n : Int) = (n : Int) := wrap_i64 (by omega) (by omega)
  have g1 : ¬ (n : Int) < 0 := by omega
  have g2 : (0 : Int) < n := by omega
  have g3 : 0 < n := by omega
  have z0 : IntKind.i64.wrap 0 = 0 := rfl
  have hN0 : New σ σ (.d .nils) [] := ⟨.nils, Fr.refl _ _, fresh_d _ _, rfl⟩
  obtain ⟨v', s', he, hN, -⟩ := hN0.grow (fun _ r off n sz e => by cases e) n (by simp; omega) (e := [(0, .d .nils), (1, I n), (16, B true), (17, .d .nils), (18, .d .nils), (19, I 0), (20, .d .nils), (21, I n)]) (a := 20) (b := 21) rfl rfl
  rw [List.nil_append] at hN
  obtain ⟨r, rfl⟩ := hN.is_sl (by simp; omega)
  have hob := hN.obj.1
  simp -implicitDefEqProofs [c70, c70_k5, c70_k4, c70_k3, lenT, Dn.lenV, w1, z0, g1, g3, c70_k2, c70_k1, sliceX, sliceV, boundV, asIdx]
  refine i_app_m he ?_
  simp -implicitDefEqProofs [lenT, Dn.lenV, sliceX, sliceV, boundV, asIdx, c70_k0]
  exact hob
def catL (X Y : List W32) : Nat → List W32
  | 0 => List.replicate (X.length + Y.length) 0
  | 1 => X ++ List.replicate Y.length 0
  | _ => X ++ Y
def catN (X Y : List W32) : Nat → Nat
  | 0 => 0
  | 1 => X.length
  | _ => X.length + Y.length
def InvCt1 (ls : D) (X Y : List W32) (m : Nat) (e : Env) (s : St) : Prop := ∃ i : Nat, e = [(0, .d ls), (3, I (catN X Y i)), (9, .d ls), (10, I 2), (11, I i)] ∧ m = 2 - i ∧ i ≤ 2 ∧ s = St.empty
def InvCt2 (ls : D) (X Y : List W32) (m : Nat) (e : Env) (s : St) : Prop := ∃ (i r : Nat), e = [(6, .sl r 0 (catN X Y i) 1), (25, .d ls), (26, I 2), (27, I i)] ∧ m = 2 - i ∧ i ≤ 2 ∧ s.objs[r]? = some (.cells (wV (catL X Y i)))
theorem s_Concat {x y : D} {X Y : List W32} (hx : PL x X) (hy : PL y Y) (l1 : 1 ≤ X.length) (lX : X.length ≤ 400) (lY : Y.length ≤ 400) : Dn.Call Γ cx .val 52 [.d (.list [[x], [y]])] St.empty (isPL (X ++ Y)) := by
  refine Dn.Call.body (fc := c52) rfl ?_
  have pick : ∀ i, i < 2 → ∃ (z : D) (Z : List W32), (([[x], [y]] : List (List D))[i]? = some [z]) ∧ PL z Z ∧ catN X Y (i + 1) = catN X Y i + Z.length ∧ catN X Y (i + 1) ≤ X.length + Y.length ∧ splice (wV (catL X Y i)) (catN X Y i) (wV Z) = wV (catL X Y (i + 1)) := by
    intro i hi
    match i, hi with
    | 0, _ =>
      refine ⟨x, X, rfl, hx, by simp [catN], by simp [catN], ?_⟩
      simp [splice, catL, catN, wV, List.map_append, List.drop_replicate]
    | 1, _ =>
      refine ⟨y, Y, rfl, hy, by simp [catN], by simp [catN], ?_⟩
      simp [splice, catL, catN, wV, List.map_append]
  simp -implicitDefEqProofs [c52, c52_k17, c52_k16, lenT, Dn.lenV, c52_k15]
  refine wloopI (InvCt1 (.list [[x], [y]]) X Y) (m := 2) ⟨0, rfl, rfl, by omega, rfl⟩ ?_
  rintro m e s ⟨i, rfl, rfl, hi, rfl⟩
  by_cases hi2 : i < 2
  · obtain ⟨z, Z, hz, hZ, hc, hcb, -⟩ := pick i hi2
    have hlt : (i : Int) < 2 := by omega
    have hia := fun σ => (LV.list [[x], [y]]).iaddr σ (k := .i64) (sz := 1) (i := i) hz rfl
    have hlz : ∀ σ, lenT σ .slice (.d z) = some Z.length := fun σ => by rw [hZ.len, pR_len]
    have w1 : IntKind.i64.wrap ((catN X Y i : Int) + Z.length) = ((catN X Y (i + 1) : Nat) : Int) := by rw [wrap_i64 (by omega) (by omega)]; omega
    have w9 : IntKind.i64.wrap ((i : Int) + 1) = ((i + 1 : Nat) : Int) := by rw [wrap_i64 (by omega) (by omega)]; omega
    have g0 : ¬ ((catN X Y (i + 1) : Nat) : Int) < 0 := by omega
    generalize hA : catN X Y i = a at *
    generalize hB : catN X Y (i + 1) = b at *
    clear hi2
    simp -implicitDefEqProofs [hlt, c52_l14, c52_k13, c52_k12, c52_k11, hia, c52_k10, hlz, w1, c52_k9, g0, c52_k8, w9]
    exact ⟨2 - (i + 1), by omega, i + 1, by rw [hB]; rfl, rfl, by omega, rfl⟩
  obtain rfl : i = 2 := by omega
  have hcn : catN X Y 2 = X.length + Y.length := rfl
  obtain ⟨n, hn⟩ : ∃ n, X.length + Y.length = n := ⟨_, rfl⟩
  rw [hcn, hn]
  simp -implicitDefEqProofs [c52_l14, c52_k13, c52_k7]
  refine use_raw (s_GrowN (n := n) (by omega) (by omega)) fun w s ⟨r, hw, ho⟩ => ?_
  subst hw
  simp -implicitDefEqProofs [c52_k6, lenT, Dn.lenV, c52_k5]
  refine wloopI (InvCt2 (.list [[x], [y]]) X Y) (m := 2) ⟨0, r, rfl, rfl, by omega, by rw [← hn] at ho; exact ho⟩ ?_
  clear ho
  rintro m e s ⟨i, r, rfl, rfl, hi, ho⟩
  by_cases hi2 : i < 2
  · obtain ⟨z, Z, hz, hZ, hc, hcb, hsp⟩ := pick i hi2
    have hlt : (i : Int) < 2 := by omega
    have hia := fun σ => (LV.list [[x], [y]]).iaddr σ (k := .i64) (sz := 1) (i := i) hz rfl
    have w9 : IntKind.i64.wrap ((i : Int) + 1) = ((i + 1 : Nat) : Int) := by rw [wrap_i64 (by omega) (by omega)]; omega
    have hcl : (wV (catL X Y i)).length = X.length + Y.length := by
      rw [wV_len]
      match i, hi2 with
      | 0, _ => simp [catL]
      | 1, _ => simp [catL]
    have hrl := (List.getElem?_eq_some_iff.1 ho).1
    have hzr := fun σ => hZ.rows (σ := σ)
    have hzf := fitR_iff.2 (pR_fit Z)
    have hpf : ((pR Z).flatten).map V.d = wV Z := pR_flat Z
    have hpl := pR_len Z
    generalize hA : catN X Y i = a at *
    generalize hB : catN X Y (i + 1) = b at *
    generalize hCL : wV (catL X Y i) = cs at *
    clear hi2
    simp -implicitDefEqProofs [hlt, c52_l4, c52_k3, c52_k2, hia, c52_k1]
    refine i_app_f (v := .sl r 0 b 1) (s := s.setObj r (.cells (wV (catL X Y (i + 1))))) ?_ ?_
    · have hle : a + Z.length ≤ cs.length := by omega
      simp [-splice, evalE, Opd.ev, Env.get, hzr, appendV, hzf, ho, hpl, hle, hpf, hsp, hc]
    simp -implicitDefEqProofs [w9]
    exact ⟨2 - (i + 1), by omega, i + 1, r, by rw [hB]; rfl, rfl, by omega, by simp [St.setObj, hrl]⟩
  obtain rfl : i = 2 := by omega
  have ho2 : s.objs[r]? = some (.cells (wV (X ++ Y))) := ho
  obtain ⟨d, hb, hl⟩ := (Rd.whole ho2).byVal
  rw [List.length_append] at hb
  have hcn : catN X Y 2 = X.length + Y.length := rfl
  rw [hcn]
  simp -implicitDefEqProofs [c52_l4, c52_k3, c52_k0, hb]
  exact ⟨d, rfl, hl⟩
theorem s_Join {σ : St} {y : Nat} {dx db : D} {L : List W32} {m : List UInt8} (h : SkR σ y (.d dx) L) (l1 : 1 ≤ L.length) (l40 : L.length ≤ 40) (hb : LV (.d db) (byteRows m)) (lm : m.length ≤ 1000) : Dn.Call Γ cx .raw 26 [.ref y 0, .d db] σ fun w s => (m.length % 4 ≠ 0 ∧ w = .tup [.d .nilp, errV 2] ∧ s = σ) ∨ (m.length % 4 = 0 ∧ 40 < L.length + m.length / 4 ∧ w = .tup [.d .nilp, errV 1] ∧ s = σ) ∨ (m.length % 4 = 0 ∧ L.length + m.length / 4 ≤ 40 ∧ ∃ j dj, w = .tup [.ref j 0, .d .nili] ∧ SkR s j (.d dj) (L ++ words m) ∧ Fr [] σ s ∧ s.toks = σ.toks) := by
  refine Dn.Call.body (fc := c26) rfl ?_
  have e1 : errV 1 = .d (.iface 39 (.int .i64 1)) := rfl
  have e2 : errV 2 = .d (.iface 39 (.int .i64 2)) := rfl
  have hlv := fun σ => h.r.len σ
  have hwl := words_len m
  have hdx : PL dx L := by
    have := h.r
    cases this with
    | lv h2 => exact h2
  simp -implicitDefEqProofs [c26, c26_k8, eqV, V.isNil, Opd.isC, c26_k7, c26_k6]
  refine use_val (ds := [.d db]) rfl (s_sums hb (by omega)) fun w s hw => ?_
  rcases hw with ⟨h4, rfl⟩ | ⟨h4, x, rfl, hx⟩
  · refine ⟨rfl, fun h => Bool.noConfusion (show false = true from h), ?_⟩
    simp -implicitDefEqProofs [c26_k5, c26_k4, c26_k3, mkifV]
    exact .inl ⟨h4, e2.symm⟩
  refine ⟨rfl, fun h => Bool.noConfusion (show false = true from h), ?_⟩
  have hlx : ∀ σ, lenT σ .slice (.d x) = some (words m).length := fun σ => by rw [hx.len, pR_len]
  have w1 : IntKind.i64.wrap ((L.length : Int) + (words m).length) = (L.length : Int) + (words m).length := wrap_i64 (by omega) (by omega)
  by_cases hgt : 40 < L.length + m.length / 4
  · have hgI : (40 : Int) < (L.length : Int) + (words m).length := by omega
    simp -implicitDefEqProofs [c26_k5, c26_k4, c26_k3, c26_k2, nilCheckV, h.o, hlv, hlx, w1, hgI, c26_k1, mkifV]
    exact .inr ⟨h4, hgt, e1.symm⟩
  have hgI : ¬ (40 : Int) < (L.length : Int) + (words m).length := by omega
  simp -implicitDefEqProofs [c26_k5, c26_k4, c26_k3, c26_k2, nilCheckV, h.o, hlv, hlx, w1, hgI, c26_k1, c26_k0, isObj, repl, rowsOf, frzV]
  refine use_val (ds := [.d (.list [[dx], [x]])]) rfl (s_Concat hdx hx l1 (by omega) (by omega)) fun w s2 ⟨dj, hw, hj⟩ => ?_
  subst hw
  refine ⟨rfl, fun h => Bool.noConfusion (show false = true from h), ?_⟩
  simp -implicitDefEqProofs
  exact ⟨h4, by omega, ⟨dj, ⟨by simp, .lv hj (by rintro r t st s h; cases h), by rintro r t st s h; cases h⟩⟩, Fr.push1 _ _⟩

theorem all_zero (L : List W32) : decide (∀ x ∈ L, x = 0) = decide (L = List.replicate L.length 0) := by
  congr 1
  refine propext ⟨fun h => List.eq_replicate_iff.2 ⟨rfl, h⟩, fun h => (List.eq_replicate_iff.1 h).2⟩
theorem agr_sk {s s2 : St} {z : Nat} {w : V} {L : List W32} {n0 : Nat} (hn : s.objs.length ≤ n0) {σ : St} (hf : Fr [] s σ) (ha : Agr n0 σ s2) (h : SkR s z w L) : SkR s2 z w L := by
  have h2 := h.fr hf
  refine ⟨(ha.1 _ (Nat.lt_of_lt_of_le (List.getElem?_eq_some_iff.1 h.o).1 hn)).trans h2.o, h2.r.mono fun r off n sz e => ha.1 r (Nat.lt_of_lt_of_le ?_ hn), h2.n⟩
  have := h.r
  subst e
  cases this with
  | lv h3 => cases h3
  | sl h3 => exact (List.getElem?_eq_some_iff.1 h3).1

abbrev fuQ : PostC := endQ .val St.empty [.tmp 6] fun v _ => v = B true
theorem bL_app (A C : List W32) : bL (A ++ C) = bL A ++ bL C := by
  unfold bL
  have : ∀ n, skB (fun i => (A ++ C).getD i 0) (A.length + n) = skB (fun i => A.getD i 0) A.length ++ skB (fun i => C.getD i 0) n := by
    intro n
    induction n with
    | zero =>
      simp only [Nat.add_zero, skB, List.append_nil]
      refine skB_congr fun i hi => ?_
      rw [List.getD_eq_getElem?_getD, List.getD_eq_getElem?_getD, List.getElem?_append_left hi]
    | succ n ih =>
      rw [← Nat.add_assoc]
      simp only [skB]
      rw [ih, List.append_assoc]
      congr 3
      rw [List.getD_eq_getElem?_getD, List.getD_eq_getElem?_getD, List.getElem?_append_right (by omega), Nat.add_sub_cancel_left]
  rw [List.length_append]
  exact this _
theorem law6_k0 {s : St} {x j : Nat} {dl dx dj dm : D} {L : List W32} {m : List UInt8} (hl : PL dl L) (l1 : 1 ≤ L.length) (l40 : L.length ≤ 40) (hx : SkR s x (.d dx) L) (hm : LV (.d dm) (byteRows m)) (h4 : m.length % 4 = 0) (lm : m.length ≤ 300) (hj : SkR s j (.d dj) (L ++ words m)) {v14 : V} {b15 : Bool} :
    wcode (Dn.Call Γ cx) cx c6_k0 [(0, .d dl), (2, .d dm), (7, .ref x 0), (8, .d .nili), (13, .ref j 0), (128, B false)] s fuQ := by
  simp only [c6_k0, w_seq]
  refine w_drwX (fun f => if f = 18 ∨ f = 13 then .rd else .val) [] (by decide +kernel) ?_
  simp only [room_zero]
  have agr : ∀ {s2 : St} {z : Nat} {w : V} {L : List W32}, Agr s.objs.length s s2 → SkR s z w L → SkR s2 z w L := fun ha h => agr_sk (Nat.le_refl _) (Fr.refl _ _) ha h
  have hcv : ∀ (σ : St) (l : List UInt8), evalConv σ .bytesStr (.d (.list (byteRows l))) = some (.d (.str l)) := fun σ l => conv_bytes (.list _)
  have hcm : ∀ (σ : St), evalConv σ .bytesStr (.d dm) = some (.d (.str m)) := fun σ => conv_bytes hm
  have hll : ∀ σ, lenT σ .slice (.d dl) = some L.length := fun σ => by rw [hl.len, pR_len]
  have hwl := words_len m
  have hb : bL (L ++ words m) = bL L ++ m := by rw [bL_app, bL_words h4]
  have hjl : (L ++ words m).length ≤ 1000 := by rw [List.length_append]; omega
  have hjn : byteRows (bL (L ++ words m)) ≠ [] := skB_ne _ (by rw [List.length_append]; omega)
  have hLn : byteRows (bL L) ≠ [] := skB_ne _ l1
  have hbl : (bL L).length = 4 * L.length := skB_len _ _
  have hle : ((bL L).length : Int) + m.length ≤ 9223372036854775807 := by omega
  simp -implicitDefEqProofs [eqV, V.isNil, Opd.isC]
  refine use_rdN (r := .d (.list (byteRows (bL (L ++ words m))))) rfl (fun s2 ha => (s_bytesOfR (agr ha hj) hjl).mono fun v s ⟨d, hv, hd⟩ => by rw [hv, lv_list hd hjn]) ?_
  simp only [q_tcont, putE, Env.set]
  simp -implicitDefEqProofs [-evalConv, hcv]
  refine use_rdN (r := .d (.list (byteRows (bL L)))) rfl (fun s2 ha => (s_bytesOfR (agr ha hx) (by omega)).mono fun v s ⟨d, hv, hd⟩ => by rw [hv, lv_list hd hLn]) ?_
  simp only [q_tcont, putE, Env.set]
  simp -implicitDefEqProofs [-evalConv, hcv, hcm, strBin, hb, hle]
  refine use_rdN rfl (fun s2 ha => s_skCap (agr ha hx)) ?_
  simp only [q_tcont, putE, Env.set]
  simp -implicitDefEqProofs [hll]
theorem law6_k7 {s : St} {x : Nat} {dl dx dm : D} {L : List W32} {m : List UInt8} (hl : PL dl L) (l1 : 1 ≤ L.length) (l40 : L.length ≤ 40) (hx : SkR s x (.d dx) L) (hm : LV (.d dm) (byteRows m)) (lm : m.length ≤ 300) {t : Env} (ht : t = [(60, B false)] ∨ t = [(74, B false)] ∨ t = [(107, B false)]) :
    wcode (Dn.Call Γ cx) cx c6_k7 ([(0, .d dl), (2, .d dm), (7, .ref x 0)] ++ t) s fuQ := by
  have main : ∀ (v13 v8 : V) (s2 : St), ((m.length % 4 ≠ 0 ∧ v13 = .d .nilp ∧ v8 = errV 2) ∨ (m.length % 4 = 0 ∧ 40 < L.length + m.length / 4 ∧ v13 = .d .nilp ∧ v8 = errV 1) ∨ (m.length % 4 = 0 ∧ L.length + m.length / 4 ≤ 40 ∧ ∃ j dj, v13 = .ref j 0 ∧ v8 = .d .nili ∧ SkR s2 j (.d dj) (L ++ words m))) → SkR s2 x (.d dx) L → wcode (Dn.Call Γ cx) cx c6_k6 [(0, .d dl), (2, .d dm), (7, .ref x 0), (8, v8), (13, v13)] s2 fuQ := by
    intro v13 v8 s2 h hx2
    have hwl := words_len m
    have hll : ∀ σ, lenT σ .slice (.d dl) = some L.length := fun σ => by rw [hl.len, pR_len]
    simp -implicitDefEqProofs [c6_k6]
    refine use_val (ds := [.d dm]) rfl (s_rSums hm (by omega)) fun w s3 hw => ?_
    rcases hw with ⟨h4, rfl⟩ | ⟨h4, z, rfl, hz⟩
    · refine ⟨rfl, fun h => Bool.noConfusion (show false = true from h), ?_⟩
      rcases h with ⟨-, rfl, rfl⟩ | ⟨h, -⟩ | ⟨h, -⟩
      · simp -implicitDefEqProofs [c6_k5, c6_k4, c6_k3]
        refine use_fn (ds := [errV 2, I 2]) rfl (s_Is 2 2) rfl ?_
        simp -implicitDefEqProofs [eqV, V.isNil, Opd.isC]
      · exact absurd h h4
      · exact absurd h h4
    · refine ⟨rfl, fun h => Bool.noConfusion (show false = true from h), ?_⟩
      have hlz : ∀ σ, lenT σ .slice (.d z) = some (words m).length := fun σ => by rw [hz.len, pR_len]
      have w1 : IntKind.i64.wrap (((words m).length : Int) + L.length) = ((words m).length : Int) + L.length := wrap_i64 (by omega) (by omega)
      rcases h with ⟨h, -⟩ | ⟨-, hgt, rfl, rfl⟩ | ⟨-, hle, j, dj, rfl, rfl, hj⟩
      · exact absurd h4 h
      · have hgI : (40 : Int) < ((words m).length : Int) + L.length := by omega
        simp -implicitDefEqProofs [c6_k5, c6_k4, c6_k3, c6_k2, hll, hlz, w1, hgI, c6_k1]
        refine use_fn (ds := [errV 1, I 1]) rfl (s_Is 1 1) rfl ?_
        simp -implicitDefEqProofs [eqV, V.isNil, Opd.isC]
      · have hgI : ¬ (40 : Int) < ((words m).length : Int) + L.length := by omega
        simp -implicitDefEqProofs [c6_k5, c6_k4, c6_k3, c6_k2, hll, hlz, w1, hgI, c6_k1]
        exact law6_k0 hl l1 l40 hx2 hm h4 lm hj (v14 := .any) (b15 := true)
  rcases ht with rfl | rfl | rfl <;>
  · simp -implicitDefEqProofs [c6_k7]
    refine use_raw (s_Join hx l1 l40 hm (by omega)) fun w s2 hw => ?_
    rcases hw with ⟨h4, rfl, rfl⟩ | ⟨h4, hgt, rfl, rfl⟩ | ⟨h4, hle, j, dj, rfl, hj, hf, htk⟩
    · simp -implicitDefEqProofs
      exact main _ _ _ (.inl ⟨h4, rfl, rfl⟩) hx
    · simp -implicitDefEqProofs
      exact main _ _ _ (.inr (.inl ⟨h4, hgt, rfl, rfl⟩)) hx
    · simp -implicitDefEqProofs
      exact main _ _ _ (.inr (.inr ⟨h4, hle, j, dj, rfl, rfl, hj⟩)) (hx.fr hf)
theorem sliceD {d : D} {L : List W32} (h : PL d L) {lo hi : Nat} (h1 : lo ≤ hi) (h2 : hi ≤ L.length) : ∃ d', sliceV 1 (.d d) lo hi none = some (.d d') ∧ PL d' ((L.drop lo).take (hi - lo)) := by
  obtain ⟨w, e1, e2, -⟩ := h.slice St.empty (sz := 1) (pR_fit L) (by rintro r t st s h; cases h) h1 (by rw [pR_len]; exact h2)
  rw [pR_drop, pR_take] at e2
  have : ∃ d', w = .d d' := by
    cases d with
    | nils =>
      simp only [sliceV] at e1
      split at e1
      · cases e1; exact ⟨_, rfl⟩
      · cases e1
    | list rows =>
      simp only [sliceV] at e1
      split at e1
      · cases e1; exact ⟨_, rfl⟩
      · cases e1
    | _ => simp [sliceV] at e1
  obtain ⟨d', rfl⟩ := this
  exact ⟨d', e1, e2⟩
theorem read_ok {L : List W32} (l1 : 1 ≤ L.length) (l40 : L.length ≤ 40) : ¬ badB (bL L) := by
  have hbl : (bL L).length = 4 * L.length := skB_len _ _
  unfold badB
  omega

theorem law6_k11 {s : St} {x j y n : Nat} {dl dx dm dj dy : D} {L : List W32} {m : List UInt8} (hl : PL dl L) (l1 : 1 ≤ L.length) (l40 : L.length ≤ 40) (hx : SkR s x (.d dx) L) (hm : LV (.d dm) (byteRows m)) (lm : m.length ≤ 300) (hj : SkR s j (.d dj) L) (hy : SkR s y (.d dy) (L.take n)) (hn : n ≤ L.length) :
    wcode (Dn.Call Γ cx) cx c6_k11 [(0, .d dl), (1, I n), (2, .d dm), (7, .ref x 0), (10, .ref y 0), (11, .d .nili), (12, .ref j 0)] s (thenQ (Dn.Call Γ cx) cx c6_k7 fuQ) := by
  simp only [c6_k11, w_seq]
  refine w_drwX (fun f => if f = 18 ∨ f = 13 then .rd else .val) [] (by decide +kernel) ?_
  simp only [room_zero]
  have agr : ∀ {s2 : St} {z : Nat} {w : V} {L : List W32}, Agr s.objs.length s s2 → SkR s z w L → SkR s2 z w L := fun ha h => agr_sk (Nat.le_refl _) (Fr.refl _ _) ha h
  have hcv : ∀ (σ : St) (l : List UInt8), evalConv σ .bytesStr (.d (.list (byteRows l))) = some (.d (.str l)) := fun σ l => conv_bytes (.list _)
  have hLn : byteRows (bL L) ≠ [] := skB_ne _ l1
  have hcap : ∀ {s2 : St}, SkR s2 y (.d dy) (L.take n) → Dn.Call Γ cx .rd 13 [.ref y 0] s2 fun w _ => w = I n := fun h => by
    have := s_skCap h
    rw [List.length_take, Nat.min_eq_left hn] at this
    exact this
  simp -implicitDefEqProofs [eqV, V.isNil, Opd.isC]
  refine use_rdN (r := .d (.list (byteRows (bL L)))) rfl (fun s2 ha => (s_bytesOfR (agr ha hj) (by omega)).mono fun v s ⟨d, hv, hd⟩ => by rw [hv, lv_list hd hLn]) ?_
  simp only [q_tcont, putE, Env.set]
  simp -implicitDefEqProofs [-evalConv, hcv]
  refine use_rdN (r := .d (.list (byteRows (bL L)))) rfl (fun s2 ha => (s_bytesOfR (agr ha hx) (by omega)).mono fun v s ⟨d, hv, hd⟩ => by rw [hv, lv_list hd hLn]) ?_
  simp only [q_tcont, putE, Env.set]
  simp -implicitDefEqProofs [-evalConv, hcv, strBin]
  refine use_rdN rfl (fun s2 ha => hcap (agr ha hy)) ?_
  simp only [q_tcont, putE, Env.set]
  simp -implicitDefEqProofs [c6_k10]
  exact law6_k7 hl l1 l40 hx hm lm (t := [(107, B false)]) (.inr (.inr rfl))
theorem law6_k15 {s : St} {x n : Nat} {dl dx dm db : D} {L : List W32} {m : List UInt8} (hl : PL dl L) (l1 : 1 ≤ L.length) (l40 : L.length ≤ 40) (hx : SkR s x (.d dx) L) (hm : LV (.d dm) (byteRows m)) (lm : m.length ≤ 300) (hn : n ≤ L.length) (n1 : 1 ≤ n) (hb : LV (.d db) (byteRows (bL (L.drop n)))) :
    wcode (Dn.Call Γ cx) cx c6_k15 [(0, .d dl), (1, I n), (2, .d dm), (7, .ref x 0), (9, .d db), (74, B true)] s (thenQ (Dn.Call Γ cx) cx c6_k7 fuQ) := by
  obtain ⟨dt, t1, t2⟩ := sliceD hl (Nat.zero_le n) hn
  rw [List.drop_zero, Nat.sub_zero] at t2
  have htl : (L.take n).length = n := by rw [List.length_take, Nat.min_eq_left hn]
  have hlV := fun σ => hl.lenV σ
  have hsx : ∀ σ, sliceX σ 1 (.d dl) none (some (I n)) none = some (.d dt) := fun σ => by simp [sliceX, hlV, pR_len, boundV, asIdx, t1, hn]
  simp -implicitDefEqProofs [c6_k15, hsx]
  refine use_val (ds := [.d dt]) rfl (s_rBytesL (by omega) t2) fun w s2 ⟨d6, hw, h6⟩ => ?_
  subst hw
  refine ⟨rfl, fun h => Bool.noConfusion (show false = true from h), ?_⟩
  have hbl : (bL (L.take n)).length = 4 * n := by rw [show (bL (L.take n)).length = 4 * (L.take n).length from skB_len _ _, htl]
  have hdl : (bL (L.drop n)).length = 4 * (L.length - n) := by rw [show (bL (L.drop n)).length = 4 * (L.drop n).length from skB_len _ _, List.length_drop]
  simp -implicitDefEqProofs
  refine use_raw (s_Read h6 (by omega)) fun w s3 hw => ?_
  rcases hw with ⟨hbad, -⟩ | ⟨-, y, dy, rfl, -, hy, hf, htk⟩
  · exact absurd hbad (read_ok (by omega) (by omega))
  rw [words_bL] at hy
  simp -implicitDefEqProofs [c6_k14, eqV, V.isNil, Opd.isC, c6_k13, c6_k12]
  refine use_raw (s_Join hy (by omega) (by omega) hb (by omega)) fun w s4 hw => ?_
  rcases hw with ⟨h4, -⟩ | ⟨-, h4, -⟩ | ⟨-, -, j, dj, rfl, hj, hf4, htk4⟩
  · omega
  · omega
  rw [words_bL, List.take_append_drop] at hj
  simp -implicitDefEqProofs
  exact law6_k11 hl l1 l40 ((hx.fr hf).fr hf4) hm lm hj (hy.fr hf4) hn
theorem law6_k19 {s : St} {x n : Nat} {dl dx dm db : D} {L : List W32} {m : List UInt8} (hl : PL dl L) (l1 : 1 ≤ L.length) (l40 : L.length ≤ 40) (hx : SkR s x (.d dx) L) (hm : LV (.d dm) (byteRows m)) (lm : m.length ≤ 300) (hn : n ≤ L.length) (hb : LV (.d db) (byteRows (bL (L.drop n)))) :
    wcode (Dn.Call Γ cx) cx c6_k19 [(0, .d dl), (1, I n), (2, .d dm), (7, .ref x 0), (8, .d .nili), (9, .d db), (52, B false)] s (thenQ (Dn.Call Γ cx) cx c6_k7 fuQ) := by
  obtain ⟨dt, t1, t2⟩ := sliceD hl hn (Nat.le_refl _)
  have hz2 : (L.drop n).take (L.length - n) = L.drop n := List.take_of_length_le (by simp)
  rw [hz2] at t2
  have hlV := fun σ => hl.lenV σ
  have hsx : ∀ σ, sliceX σ 1 (.d dl) (some (I n)) none none = some (.d dt) := fun σ => by simp [sliceX, hlV, pR_len, boundV, asIdx, t1, hn]
  have hcb : ∀ (σ : St), evalConv σ .bytesStr (.d db) = some (.d (.str (bL (L.drop n)))) := fun σ => conv_bytes hb
  simp only [c6_k19, w_seq]
  refine w_drwX (fun _ => .val) [] (by decide +kernel) ?_
  simp only [room_zero]
  simp -implicitDefEqProofs [-evalConv, eqV, V.isNil, Opd.isC, hcb, hsx]
  refine use_valN (ds := [.d dt]) rfl rfl (s_rBytesL (by simp; omega) t2) ⟨.d (.list (byteRows (bL (L.drop n)))), St.empty, _, rfl, .list _⟩ fun w s6 ⟨d6, hw6, h6⟩ => ?_
  subst hw6
  have hc6 : ∀ (σ : St), evalConv σ .bytesStr (.d d6) = some (.d (.str (bL (L.drop n)))) := fun σ => conv_bytes h6
  refine ⟨rfl, fun hb => Bool.noConfusion (show false = true from hb), ?_⟩
  simp only [q_tcont, putE, Env.set]
  simp -implicitDefEqProofs [-evalConv, hc6, strBin, c6_k18, c6_k17]
  by_cases h0 : n = 0
  · subst h0
    simp -implicitDefEqProofs [c6_k16]
    exact law6_k7 hl l1 l40 hx hm lm (t := [(74, B false)]) (.inr (.inl rfl))
  · have h0I : (0 : Int) < n := by omega
    have h0' : 0 < n := by omega
    simp -implicitDefEqProofs [h0I, h0', c6_k16]
    exact law6_k15 hl l1 l40 hx hm lm hn (by omega) hb
theorem law6_k22 {s : St} {x : Nat} {f : Int} {dl dx dm : D} {L : List W32} {m : List UInt8} (hl : PL dl L) (l1 : 1 ≤ L.length) (l40 : L.length ≤ 40) (hx : SkR s x (.d dx) L) (hm : LV (.d dm) (byteRows m)) (lm : m.length ≤ 300) :
    wcode (Dn.Call Γ cx) cx c6_k22 [(0, .d dl), (1, .d (.int .i64 f)), (2, .d dm), (7, .ref x 0)] s fuQ := by
  have hll : ∀ σ, lenT σ .slice (.d dl) = some L.length := fun σ => by rw [hl.len, pR_len]
  simp -implicitDefEqProofs [c6_k22]
  refine use_rd' (s_Further hx (by omega) f) fun w s2 hw => ?_
  rcases hw with ⟨hbad, rfl⟩ | ⟨f0, f1, db, rfl, hb⟩
  · have fin : wcode (Dn.Call Γ cx) cx c6_k9 [(0, .d dl), (2, .d dm), (7, .ref x 0), (8, errV 1), (9, .d .nils), (1, .d (.int .i64 f)), (52, B true)] s (thenQ (Dn.Call Γ cx) cx c6_k7 fuQ) → True := fun _ => trivial
    by_cases g1 : f < 0
    · simp -implicitDefEqProofs [c6_k21, g1, c6_k20, c6_k9]
      refine use_fn (ds := [errV 1, I 1]) rfl (s_Is 1 1) rfl ?_
      simp -implicitDefEqProofs [lenT, Dn.lenV, c6_k8]
      exact law6_k7 hl l1 l40 hx hm lm (t := [(60, B false)]) (.inl rfl)
    · have g2 : (L.length : Int) < f := by omega
      simp -implicitDefEqProofs [c6_k21, g1, hll, g2, c6_k20, c6_k9]
      refine use_fn (ds := [errV 1, I 1]) rfl (s_Is 1 1) rfl ?_
      simp -implicitDefEqProofs [lenT, Dn.lenV, c6_k8]
      exact law6_k7 hl l1 l40 hx hm lm (t := [(60, B false)]) (.inl rfl)
  · obtain ⟨n, rfl⟩ : ∃ n : Nat, f = (n : Int) := ⟨f.toNat, by omega⟩
    rw [Int.toNat_natCast] at hb
    have g1 : ¬ (n : Int) < 0 := by omega
    have g2 : ¬ (L.length : Int) < n := by omega
    have g3 : ¬ L.length < n := by omega
    simp -implicitDefEqProofs [c6_k21, g1, hll, g2, g3, c6_k20]
    exact law6_k19 hl l1 l40 hx hm lm (by omega) hb
set_option maxHeartbeats 2000000 in
theorem law6 {dl d1 dm : D} (fl : wordsK.fits dl) (f1 : (Lk.int .i64).fits d1) (fm : (Lk.list [.int .u8]).fits dm) : Dn.Call Γ cx .val 6 [.d dl, .d d1, .d dm] St.empty fun r _ => r = B true := by
  obtain ⟨f, rfl, -, -⟩ := f1
  obtain ⟨L, hl⟩ := words_fit fl
  obtain ⟨m, hm⟩ := bytes_fit fm
  refine Dn.Call.body (fc := c6) rfl ?_
  have hll : ∀ σ, lenT σ .slice (.d dl) = some L.length := fun σ => by rw [hl.len, pR_len]
  have hlm : ∀ σ, lenT σ .slice (.d dm) = some m.length := fun σ => by rw [hm.len, byteRows_len]
  simp -implicitDefEqProofs [c6, c6_k29]
  refine use_fn rfl s_alive rfl ?_
  by_cases g1 : (L.length : Int) < 1
  · simp -implicitDefEqProofs [c6_k28, c6_k27, hll, g1, c6_k26]
  by_cases g2 : (40 : Int) < L.length
  · simp -implicitDefEqProofs [c6_k28, c6_k27, hll, g1, g2, c6_k26]
  by_cases g3 : (300 : Int) < m.length
  · simp -implicitDefEqProofs [c6_k28, c6_k27, hll, g1, g2, hlm, g3, c6_k26]
  simp -implicitDefEqProofs [c6_k28, c6_k27, hll, g1, g2, hlm, g3, c6_k26, c6_k25]
  refine use_val (ds := [.d dl]) rfl (s_rBytesL (by omega) hl) fun w s2 ⟨d6, hw, h6⟩ => ?_
  subst hw
  refine ⟨rfl, fun h => Bool.noConfusion (show false = true from h), ?_⟩
  have hbl : (bL L).length = 4 * L.length := skB_len _ _
  simp -implicitDefEqProofs
  refine use_raw (s_Read h6 (by omega)) fun w s3 hw => ?_
  rcases hw with ⟨hbad, -⟩ | ⟨-, x, dx, rfl, -, hx, hf, htk⟩
  · exact absurd hbad (read_ok (by omega) (by omega))
  rw [words_bL] at hx
  simp -implicitDefEqProofs [c6_k24, eqV, V.isNil, Opd.isC, c6_k23]
  exact law6_k22 hl (by omega) (by omega) hx hm (by omega)
end Go.Proofs.Ytmlkdfjojoophaa.T
