import Derived.Test.YtmlkdfjojoophaaF27
namespace Go.Proofs.Ytmlkdfjojoophaa.T
open Go.Dn
set_option linter.unusedSimpArgs false
set_option linter.unusedVariables false
open Sip

def itemOf (K0 K1 : W64) (t : List UInt8) : Item := (short K0 K1 t, t)
def sw (K0 K1 : W64) (t : List UInt8) : W32 := wof (short K0 K1 t)
theorem un_sw (K0 K1 : W64) (t : List UInt8) : un (sw K0 K1 t) = short K0 K1 t := by
 obtain ⟨h1, h2⟩ := short_bound K0 K1 t
 exact un_wof (by omega) h2
theorem sw_ne (K0 K1 : W64) (t : List UInt8) : sw K0 K1 t ≠ 0 := fun e => by
 have h := un_sw K0 K1 t
 rw [e] at h
 have := (short_bound K0 K1 t).1
 have h0 : un (0 : W32) = 0 := rfl
 omega
theorem gt_iff {M : List Item} {i : Int} : gt M i = none ↔ i ∉ M.map (·.1) := by
 constructor
 ·intro h hm
  obtain ⟨p, hp, he⟩ := List.mem_map.1 hm
  exact gt_none h p hp he
 ·intro h
  cases hg : gt M i with
  | none => rfl
  | some t => exact absurd (List.mem_map.2 ⟨_, gt_some hg, rfl⟩) h
theorem putAll_nodup {K0 K1 : W64} : ∀ {L : List (List UInt8)} {M : List Item}, (M.map (·.1)).Nodup → (putAll K0 K1 L M).2 = 0 → ((L.map (short K0 K1)) ++ M.map (·.1)).Nodup ∧ (putAll K0 K1 L M).1.Perm (L.map (itemOf K0 K1) ++ M)
 | [], M, hM, _ => ⟨hM, List.Perm.refl _⟩
 | t :: L, M, hM, h => by
  simp only [putAll] at h ⊢
  by_cases h0 : (putI (short K0 K1 t) t M).2 = 0
  ·rw [if_pos h0] at h ⊢
   cases hg : gt M (short K0 K1 t) with
   | some u =>
    simp only [putI, hg] at h0
    split at h0 <;> omega
   | none =>
    have hM1 : (putI (short K0 K1 t) t M).1 = ins (short K0 K1 t) t M := by simp only [putI, hg]
    have hp := ins_perm (short K0 K1 t) t M
    have hpm := hp.map (·.1)
    have hn : ((ins (short K0 K1 t) t M).map (·.1)).Nodup := by
     rw [hpm.nodup_iff, List.map_cons, List.nodup_cons]
     exact ⟨gt_iff.1 hg, hM⟩
    rw [hM1] at h ⊢
    obtain ⟨h1, h2⟩ := putAll_nodup hn h
    constructor
    ·have hq : ((t :: L).map (short K0 K1) ++ M.map (·.1)).Perm (L.map (short K0 K1) ++ (ins (short K0 K1 t) t M).map (·.1)) := by
      refine List.Perm.trans ?_ (List.Perm.append_left _ hpm.symm)
      simp only [List.map_cons, List.cons_append]
      exact List.perm_middle.symm
     exact hq.nodup_iff.2 h1
    ·refine h2.trans ?_
     refine (List.Perm.append_left _ hp).trans ?_
     simp only [List.map_cons, List.cons_append]
     exact List.perm_middle
  ·rw [if_neg h0] at h
   exact absurd h h0
theorem putAll_ok {K0 K1 : W64} : ∀ {L : List (List UInt8)} {M : List Item}, ((L.map (short K0 K1)) ++ M.map (·.1)).Nodup → (putAll K0 K1 L M).2 = 0
 | [], M, _ => rfl
 | t :: L, M, h => by
  simp only [List.map_cons, List.cons_append, List.nodup_cons, List.mem_append, not_or] at h
  have hg : gt M (short K0 K1 t) = none := gt_iff.2 h.1.2
  have hp := ins_perm (short K0 K1 t) t M
  simp only [putAll]
  have h0 : putI (short K0 K1 t) t M = (ins (short K0 K1 t) t M, 0) := by simp only [putI, hg]
  rw [h0, if_pos rfl]
  refine putAll_ok ?_
  have hq : (L.map (short K0 K1) ++ (ins (short K0 K1 t) t M).map (·.1)).Perm (short K0 K1 t :: (L.map (short K0 K1) ++ M.map (·.1))) := (List.Perm.append_left _ (hp.map (·.1))).trans List.perm_middle
  rw [hq.nodup_iff, List.nodup_cons]
  refine ⟨?_, h.2⟩
  rw [List.mem_append, not_or]
  exact h.1
theorem putAll_err {K0 K1 : W64} : ∀ {L : List (List UInt8)} {M : List Item}, (putAll K0 K1 L M).2 = 0 ∨ (putAll K0 K1 L M).2 = 5 ∨ (putAll K0 K1 L M).2 = 6
 | [], M => .inl rfl
 | t :: L, M => by
  simp only [putAll]
  split
  ·exact putAll_err
  ·exact putI_err _ _ _
theorem index_of {K0 K1 : W64} {L : List (List UInt8)} (h : (L.map (short K0 K1)).Nodup) : (putAll K0 K1 L []).2 = 0 ∧ (putAll K0 K1 L []).1.Perm (L.map (itemOf K0 K1)) := by
 have h0 : (putAll K0 K1 L []).2 = 0 := putAll_ok (by simpa using h)
 have := (putAll_nodup (M := []) List.nodup_nil h0).2
 rw [List.append_nil] at this
 exact ⟨h0, this⟩
theorem gt_of_mem {K0 K1 : W64} {L : List (List UInt8)} {M : List Item} (h : (L.map (short K0 K1)).Nodup) (hp : M.Perm (L.map (itemOf K0 K1))) {t : List UInt8} (ht : t ∈ L) : gt M (short K0 K1 t) = some t := by
 cases hg : gt M (short K0 K1 t) with
 | none => exact absurd (List.mem_map.2 ⟨_, hp.mem_iff.2 (List.mem_map.2 ⟨t, ht, rfl⟩), rfl⟩) (gt_iff.1 hg)
 | some u =>
  have hu := hp.mem_iff.1 (gt_some hg)
  obtain ⟨v, hv, he⟩ := List.mem_map.1 hu
  have h1 : short K0 K1 v = short K0 K1 t := congrArg Prod.fst he
  have h2 : v = u := congrArg Prod.snd he
  have h3 : v = t := by
   have hinj : ∀ {L : List (List UInt8)}, (L.map (short K0 K1)).Nodup → ∀ a ∈ L, ∀ b ∈ L, short K0 K1 a = short K0 K1 b → a = b := by
    intro L
    induction L with
    | nil => intro _ a ha; cases ha
    | cons x L ih =>
     intro h a ha b hb e
     simp only [List.map_cons, List.nodup_cons] at h
     rcases List.mem_cons.1 ha with ea | ha2 <;> rcases List.mem_cons.1 hb with eb | hb2
     ·rw [ea, eb]
     ·exact absurd (List.mem_map.2 ⟨b, hb2, by rw [← e, ea]⟩) h.1
     ·exact absurd (List.mem_map.2 ⟨a, ha2, by rw [e, eb]⟩) h.1
     ·exact ih h.2 a ha2 b hb2 e
   exact hinj h v hv t ht h1
  rw [← h2, h3]
theorem gt_of_not {K0 K1 : W64} {L : List (List UInt8)} {M : List Item} (hp : M.Perm (L.map (itemOf K0 K1))) {i : Int} (hi : i ∉ L.map (short K0 K1)) : gt M i = none := by
 refine gt_iff.2 fun hm => hi ?_
 have := (hp.map (·.1)).mem_iff.1 hm
 rw [List.map_map] at this
 exact this
theorem pt_nodup {M : List Item} {ids : List Int} (hn : ids.Nodup) : ∀ k, k ≤ ids.length → pt M ids k = ((ids.take k).filterMap (gt M), (ids.take k).filter fun i => (gt M i).isNone)
 | 0, _ => by simp [pt]
 | k + 1, hk => by
  have ih := pt_nodup (M := M) hn k (by omega)
  obtain ⟨i, hi⟩ : ∃ i, ids[k]? = some i := ⟨_, List.getElem?_eq_getElem (by omega)⟩
  have hta : ids.take (k + 1) = ids.take k ++ [i] := by rw [List.take_add_one, hi]; rfl
  have hni : i ∉ ids.take k := by
   have h2 : (ids.take (k + 1)).Nodup := hn.sublist (List.take_sublist _ _)
   rw [hta] at h2
   have := (List.nodup_append.1 h2).2.2
   intro hm
   exact this i hm i (by simp) rfl
  simp only [pt, hi, if_neg hni, ih, hta]
  cases hg : gt M i with
  | none => simp [hg]
  | some u => simp [hg]
theorem part_perm {K0 K1 : W64} {O A C : List (List UInt8)} {M : List Item} {ids : List Int} (h : ((O ++ A ++ C).map (short K0 K1)).Nodup) (hp : M.Perm ((O ++ A).map (itemOf K0 K1))) (hi : ids.Perm ((A ++ C).map (short K0 K1))) : (pt M ids ids.length).1.Perm A ∧ (pt M ids ids.length).2.length = C.length := by
 have h2 := h
 rw [List.map_append, List.nodup_append] at h2
 have h3 : (A ++ C).Sublist (O ++ A ++ C) := by
  rw [List.append_assoc]
  exact List.sublist_append_right _ _
 have hn : ids.Nodup := hi.nodup_iff.2 (h.sublist (h3.map _))
 rw [pt_nodup hn _ (Nat.le_refl _), List.take_length]
 have hA : ∀ t ∈ A, gt M (short K0 K1 t) = some t := fun t ht => gt_of_mem h2.1 hp (by simp [ht])
 have hC : ∀ t ∈ C, gt M (short K0 K1 t) = none := fun t ht => gt_of_not hp fun hm => h2.2.2 _ hm _ (List.mem_map.2 ⟨t, ht, rfl⟩) rfl
 have fA : ∀ {A : List (List UInt8)}, (∀ t ∈ A, gt M (short K0 K1 t) = some t) → (A.map (short K0 K1)).filterMap (gt M) = A ∧ (A.map (short K0 K1)).filter (fun i => (gt M i).isNone) = [] := by
  intro A
  induction A with
  | nil => intro _; exact ⟨rfl, rfl⟩
  | cons t A ih =>
   intro h
   obtain ⟨i1, i2⟩ := ih fun u hu => h u (by simp [hu])
   have ht := h t (by simp)
   simp only [List.map_cons, List.filterMap_cons, List.filter_cons, ht, i1, i2]
   exact ⟨trivial, rfl⟩
 have fC : ∀ {C : List (List UInt8)}, (∀ t ∈ C, gt M (short K0 K1 t) = none) → (C.map (short K0 K1)).filterMap (gt M) = [] ∧ (C.map (short K0 K1)).filter (fun i => (gt M i).isNone) = C.map (short K0 K1) := by
  intro C
  induction C with
  | nil => intro _; exact ⟨rfl, rfl⟩
  | cons t C ih =>
   intro h
   obtain ⟨i1, i2⟩ := ih fun u hu => h u (by simp [hu])
   have ht := h t (by simp)
   simp only [List.map_cons, List.filterMap_cons, List.filter_cons, ht, i1, i2]
   exact ⟨trivial, rfl⟩
 obtain ⟨a1, a2⟩ := fA hA
 obtain ⟨c1, c2⟩ := fC hC
 constructor
 ·have := hi.filterMap (gt M)
  rw [List.map_append, List.filterMap_append, a1, c1, List.append_nil] at this
  exact this
 ·have := (hi.filter fun i => (gt M i).isNone).length_eq
  rw [List.map_append, List.filter_append, a2, c2, List.nil_append, List.length_map] at this
  exact this
end Go.Proofs.Ytmlkdfjojoophaa.T

namespace Go.Proofs.Ytmlkdfjojoophaa.T
open Go.Dn
attribute [local simp] body_eq globEnv GB List.map_nil List.map_cons List.append_nil w_rangeF i_next i_makeMap i_range i_update i_delete i_entry i_clone entryV cloneV q_rndA q_rndB_n q_rndB_e q_rndB_r setAll w_skip w_ops w_seq w_cond w_block w_exit w_ret q_then_n q_then_e q_then_r q_blk_n q_blk_e q_blk_r q_ops q_cont q_end_n q_end_r q_end_e q_loop_n q_loop_e q_loop_r i_nil i_p i_alloc i_box i_store i_copy i_clear i_call i_callv i_when t_nil t_p t_call t_alloc t_box t_store kept_nil t_copy t_clear q_tcont gsel List.cons_append List.nil_append evalP evalE evalF evalB isObj thaw Opd.ev Env.get Env.set Env.pick putE initEnv evalBin intBin evalUn evalConv goneAll goneOne retV resAll Res.ev tupOf byVals byValsN bv_d bv_da bv_fl bv_tl bn_d bn_da bn_fl bn_tl cx Dn.newObj St.place St.push St.spot St.empty cell_d cell_da cell_agg cell_ref cell_sl cell_fl cell_tl cell_map cell_fn cell_ifc loadAt faddrV partOf extractV mkAgg ofD splice St.setObj fillV
set_option linter.unusedSimpArgs false
set_option linter.unusedVariables false
open Sip

def InvWi (a b : D) (A C : List (List UInt8)) (m : Nat) (e : Env) (s : St) : Prop := ∃ i : Nat, e = [(0, .d a), (1, .d b), (10, .d b), (11, I C.length), (12, I i)] ∧ i ≤ C.length ∧ m = C.length - i
def InvWj (a b : D) (A C : List (List UInt8)) (i r : Nat) (h : List UInt8) (m : Nat) (e : Env) (s : St) : Prop := ∃ k : Nat, e = [(0, .d a), (1, .d b), (6, .ref r 0), (7, B (decide (h ∈ A.take k))), (10, .d b), (11, I C.length), (12, I i), (16, .d a), (17, I A.length), (18, I k)] ∧ k ≤ A.length ∧ m = A.length - k ∧ s.objs[r]? = some (.cells (byV h))
theorem s_within {a b : D} {A C : List (List UInt8)} (ha : LV (.d a) (hRows A)) (hb : LV (.d b) (hRows C)) (hA : ∀ t ∈ A, t.length = 32) (hC : ∀ t ∈ C, t.length = 32) (lA : A.length ≤ 1000) (lC : C.length ≤ 1000) (hin : ∀ t ∈ C, t ∈ A) (hl : A.length = C.length) :
  Dn.Call Γ cx .val 34 [.d a, .d b] St.empty fun v _ => v = B true := by
 refine Dn.Call.body (fc := c34) rfl ?_
 have hla : ∀ σ, lenT σ .slice (.d a) = some A.length := fun σ => by rw [ha.len, hRows_len]
 have hlb : ∀ σ, lenT σ .slice (.d b) = some C.length := fun σ => by rw [hb.len, hRows_len]
 have hzl : (List.replicate 32 (V.d (.int .u8 0))).length = 32 := List.length_replicate
 have hzd : (List.replicate 32 (V.d (.int .u8 0))).drop 32 = [] := List.drop_of_length_le (by rw [hzl]; omega)
 simp -implicitDefEqProofs [-List.reduceReplicate, c34, c34_k15, hlb, c34_k14]
 refine wloopI (InvWi a b A C) (m := C.length) ⟨0, rfl, by omega, by omega⟩ ?_
 rintro m e s ⟨i, rfl, hi, rfl⟩
 by_cases hil : i < C.length
 rotate_left
 ·obtain rfl : i = C.length := by omega
  simp -implicitDefEqProofs [-List.reduceReplicate, c34_l13, c34_k12, c34_k0, hla, hlb, hl]
 have hii : (i : Int) < C.length := by omega
 obtain ⟨h, hh⟩ : ∃ h, C[i]? = some h := ⟨_, List.getElem?_eq_getElem hil⟩
 have h32 := hC h (List.mem_of_getElem? hh)
 have hhl := hashD_len h
 rw [h32] at hhl
 have htk : List.take 32 (hashD h) = hashD h := List.take_of_length_le (by omega)
 have hib := fun σ => hb.iaddr σ (k := .i64) (sz := 32) (i := i) (hRows_at hh) hhl
 have hmem := hin h (List.mem_of_getElem? hh)
 clear hil
 simp -implicitDefEqProofs [-List.reduceReplicate, c34_l13, c34_k12, hii, c34_k11, c34_k10, hib, hhl, htk, hashD_byV, byV_len, h32, hzd, c34_k9, c34_k8, hla, c34_k7]
 refine wloopI (InvWj a b A C i s.objs.length h) (m := A.length) ⟨0, by simp [Env.pick, Env.get], by omega, by omega, by simp⟩ ?_
 rintro m e s2 ⟨k, rfl, hk, rfl, oc⟩
 by_cases hkl : k < A.length
 rotate_left
 ·obtain rfl : k = A.length := by omega
  rw [List.take_length]
  simp -implicitDefEqProofs [-List.reduceReplicate, c34_l6, c34_k5, c34_k2, hmem, c34_k1, wrap_i64 (n := (i : Int) + 1) (by omega) (by omega)]
  exact ⟨C.length - (i + 1), by omega, i + 1, rfl, by omega, rfl⟩
 have hkk : (k : Int) < A.length := by omega
 obtain ⟨g, hg⟩ : ∃ g, A[k]? = some g := ⟨_, List.getElem?_eq_getElem hkl⟩
 have hg32 := hA g (List.mem_of_getElem? hg)
 have hgl := hashD_len g
 rw [hg32] at hgl
 have htg : List.take 32 (hashD g) = hashD g := List.take_of_length_le (by omega)
 have hia := fun σ => ha.iaddr σ (k := .i64) (sz := 32) (i := k) (hRows_at hg) hgl
 have hta : A.take (k + 1) = A.take k ++ [g] := by rw [List.take_add_one, hg]; rfl
 have hrl : s.objs.length < s2.objs.length := (List.getElem?_eq_some_iff.1 oc).1
 have oc2 : ∀ o, (s2.objs ++ [o])[s.objs.length]? = some (.cells (byV h)) := fun o => by rw [List.getElem?_append_left hrl]; exact oc
 clear hkl hrl
 simp -implicitDefEqProofs [-List.reduceReplicate, c34_l6, c34_k5, hkk, c34_k4, hia, hgl, htg, hashD_byV, byV_len, hg32, hzd]
 by_cases hm : h ∈ A.take k
 ·simp -implicitDefEqProofs [-List.reduceReplicate, c34_k3, hm, wrap_i64 (n := (k : Int) + 1) (by omega) (by omega)]
  exact ⟨A.length - (k + 1), by omega, k + 1, by rw [hta]; simp [hm], by omega, rfl, oc2 _⟩
 ·simp -implicitDefEqProofs [-List.reduceReplicate, c34_k3, hm, oc2, byV_len, h32, hg32, byV_take h32, byV_take hg32, ofD_byV, eq_hash hg32 h32, wrap_i64 (n := (k : Int) + 1) (by omega) (by omega)]
  exact ⟨A.length - (k + 1), by omega, k + 1, by rw [hta]; simp [hm, eq_comm], by omega, rfl, oc2 _⟩

def h7 : List UInt8 := 7 :: List.replicate 31 0
theorem h7_len : h7.length = 32 := rfl
theorem h7_D : (D.int .u8 7 :: List.replicate 31 (.int .u8 0)) = hashD h7 := rfl
theorem ofD31 : ofD (List.replicate 31 (V.d (.int .u8 0))) = some (List.replicate 31 (.int .u8 0)) := rfl
theorem h7_take : (hashD h7).take 32 = hashD h7 := List.take_of_length_le (by rw [hashD_len, h7_len]; omega)
def iA : Int := short 1 2 h7
def jA : Int := IntKind.u32.wrap (iA + 1)
theorem jA_ne : jA ≠ iA ∧ 0 ≤ jA ∧ jA ≤ 4294967295 := by
 obtain ⟨b1, b2⟩ := short_bound 1 2 h7
 have e : jA = IntKind.u32.wrap (short 1 2 h7 + 1) := rfl
 have e2 : iA = short 1 2 h7 := rfl
 rw [e, e2]
 generalize short 1 2 h7 = i at *
 simp only [IntKind.wrap, IntKind.signed, IntKind.bits]
 simp
 omega

theorem s_NewG {σ : St} (K0 K1 : W64) {d : V} {L : List (List UInt8)} (hld : ∀ σ, lenT σ .slice d = some L.length) (hat : ∀ (s : St), Fr [] σ s → ∀ (i : Nat) (t : List UInt8), L[i]? = some t → ∃ ad, iaddrV s 32 d (I i) = some ad ∧ loadAt s true 32 ad = some (.da (hashD t))) (hL : ∀ t ∈ L, t.length = 32) (hlen : L.length ≤ 89) :
  Dn.Call Γ cx .raw 30 [.da [.int .u64 (un K0), .int .u64 (un K1)], d] σ (NewP σ K0 K1 L) := by
 refine Dn.Call.body (fc := c30) rfl ?_
 simp -implicitDefEqProofs [c30, c30_k10, mkAgg, ofD]
 obtain ⟨σ1, hσ1⟩ : ∃ s : St, (⟨σ.objs ++ [.cells [Wd K0, Wd K1], .map [] 0, .cells [Wd K0, Wd K1, .map (σ.objs.length + 1)]], σ.toks⟩ : St) = s := ⟨_, rfl⟩
 rw [hσ1]
 have f1 : Fr [] σ σ1 := ⟨by rw [← hσ1]; simp, fun r _ hr => by rw [← hσ1]; simp only; rw [List.getElem?_append_left hr]⟩
 have h1 : Ix σ1 (σ.objs.length + 2) (σ.objs.length + 1) (un K0) (un K1) [] 0 [] :=
  ⟨by rw [← hσ1]; simp [List.getElem?_append], by rw [← hσ1]; simp [List.getElem?_append], ⟨⟨by simp, by simp⟩, by simp⟩, ⟨by simp, by simp, by simp, by simp⟩⟩
 have tk1 : σ1.toks = σ.toks := by rw [← hσ1]
 clear hσ1
 obtain ⟨x, hx⟩ : ∃ x, σ.objs.length + 2 = x := ⟨_, rfl⟩
 obtain ⟨q, hq⟩ : ∃ q, σ.objs.length + 1 = q := ⟨_, rfl⟩
 have hxl : σ.objs.length ≤ x := by omega
 have hql : σ.objs.length ≤ q := by omega
 rw [hx, hq] at h1
 rw [hx]
 clear hx hq
 simp -implicitDefEqProofs [c30_k9, hld, c30_k8]
 refine wloopI (InvNew σ K0 K1 x q d L) (m := L.length) ⟨0, [], 0, [], rfl, by omega, rfl, h1, (by intro p hp; cases hp), by simp, f1, tk1, rfl⟩ ?_
 rintro m e s ⟨i, es, clock, M, rfl, hi, rfl, hix, hon, hml, hfr, htk, hpa⟩
 by_cases hil : i < L.length
 rotate_left
 ·obtain rfl : i = L.length := by omega
  simp only [List.drop_length, putAll] at hpa
  simp -implicitDefEqProofs [c30_l7, c30_k6, c30_k0]
  exact ⟨hfr, htk, .inl ⟨by rw [hpa], x, q, es, clock, rfl, hxl, hql, by rw [hpa]; exact hix, by rw [hpa]; exact hon⟩⟩
 have hii : (i : Int) < L.length := by omega
 obtain ⟨t, ht⟩ : ∃ t, L[i]? = some t := ⟨_, List.getElem?_eq_getElem hil⟩
 have ht32 := hL t (List.mem_of_getElem? ht)
 have htl := hashD_len t
 rw [ht32] at htl
 have htk32 : List.take 32 (hashD t) = hashD t := List.take_of_length_le (by omega)
 obtain ⟨ad, ha1, ha2⟩ := hat s hfr i t ht
 have hdr : L.drop i = t :: L.drop (i + 1) := by
  obtain ⟨hi', rfl⟩ := List.getElem?_eq_some_iff.1 ht
  exact List.drop_eq_getElem_cons hi'
 rw [hdr, putAll] at hpa
 have hzl : (List.replicate 32 (V.d (.int .u8 0))).length = 32 := List.length_replicate
 have hzd : (List.replicate 32 (V.d (.int .u8 0))).drop 32 = [] := List.drop_of_length_le (by rw [hzl]; omega)
 clear hil
 simp -implicitDefEqProofs [-List.reduceReplicate, -loadAt, c30_l7, c30_k6, hii, c30_k5, c30_k4, ha1, ha2]
 simp -implicitDefEqProofs [-List.reduceReplicate, c30_l7, c30_k6, hii, c30_k5, c30_k4, htl, htk32, hashD_byV, byV_len, ht32, hzd, c30_k3, byV_take ht32, ofD_byV]
 obtain ⟨s1, hs1⟩ : ∃ s' : St, (⟨s.objs ++ [.cells (byV t)], s.toks⟩ : St) = s' := ⟨_, rfl⟩
 rw [hs1]
 have f2 : Fr [] s s1 := ⟨by rw [← hs1]; simp, fun r _ hr => by rw [← hs1]; simp only; rw [List.getElem?_append_left hr]⟩
 have tk2 : s1.toks = s.toks := by rw [← hs1]
 clear hs1
 obtain ⟨p1, p2, p3⟩ := putI_plain hix.pl hon ht32 (by omega)
 refine use_raw (s_ixPut (hix.mono f2) (by omega) ht32) fun v s2 ⟨hv, ⟨es', clock', hix2⟩, hfr2, htk2⟩ => ?_
 have hfr3 : Fr [] σ s2 := ⟨Nat.le_trans hfr.len (Nat.le_trans f2.len hfr2.len), fun r _ hl => by
  rw [hfr2.at_ r (by simp; omega) (Nat.lt_of_lt_of_le hl (Nat.le_trans hfr.len f2.len))]
  exact (hfr.trans f2).at_ r (by simp) hl⟩
 have htk3 : s2.toks = σ.toks := by rw [htk2, tk2, htk]
 subst hv
 rcases putI_err (short K0 K1 t) t M with h0 | h5
 ·rw [if_pos h0] at hpa
  rw [h0]
  simp -implicitDefEqProofs [errV, c30_k2, c30_k1, eqV, V.isNil, Opd.isC, wrap_i64 (n := (i : Int) + 1) (by omega) (by omega)]
  exact ⟨L.length - (i + 1), by omega, i + 1, es', clock', _, rfl, by omega, rfl, hix2, p2, by omega, hfr3, htk3, hpa⟩
 ·have h0 : (putI (short K0 K1 t) t M).2 ≠ 0 := by omega
  rw [if_neg h0] at hpa
  simp -implicitDefEqProofs [errV, h0, c30_k2, c30_k1, eqV, V.isNil, Opd.isC]
  exact ⟨hfr3, htk3, .inr ⟨by rw [hpa]; exact h0, by rw [hpa]; simp [errV, h0]⟩⟩
theorem s_alive22 : Dn.Call Γ cx .val 29 [] St.empty fun v _ => v = B true := by
 refine Dn.Call.body (fc := c29) rfl ?_
 simp -implicitDefEqProofs [-List.reduceReplicate, c29, c29_k5, mkAgg, ofD, repl, rowsOf, ofD31, h7_D, hashD_byV, byV_len, h7_len, frz_byV, h7_take]
 refine use_raw (s_NewG 1 2 (d := .sl 0 0 1 32) (L := [h7]) (fun _ => rfl) (fun s hf i t ht => ?_) (by simp [h7_len]) (by simp)) fun v s hP => ?_
 ·have hi := (List.getElem?_eq_some_iff.1 ht).1
  have h0 : i = 0 := by simpa using hi
  subst h0
  cases ht
  have ho : s.objs[0]? = some (.cells (byV h7)) := hf.get rfl (by simp)
  exact ⟨.ref 0 0, by simp [iaddrV, asIdx], by simp [loadAt, ho, byV_take h7_len, mkAgg, ofD_byV, byV_len, h7_len]⟩
 have hpa : putAll 1 2 [h7] [] = ([(iA, h7)], 0) := by simp [putAll, putI, gt, ins, iA]
 rcases hP.r with ⟨-, x, q, es, clock, hv, -, -, hix, hon⟩ | ⟨h0, -⟩
 rotate_left
 ·rw [hpa] at h0; simp at h0
 rw [hpa] at hix
 subst hv
 simp -implicitDefEqProofs [c29_k4, eqV, V.isNil, Opd.isC, c29_k3]
 simp -implicitDefEqProofs [-List.reduceReplicate, c29_k2, mkAgg, ofD, ofD31, h7_D]
 have hsh : Dn.Call Γ cx .val 56 [.da [.int .u64 1, .int .u64 2], .da (hashD h7)] St.empty fun v _ => v = X iA := s_Short 1 2 h7_len
 obtain ⟨hne, hj0, hj1⟩ := jA_ne
 obtain ⟨b1, b2⟩ : 1 ≤ iA ∧ iA ≤ 4294967295 := short_bound 1 2 h7
 have hjd : IntKind.u32.wrap (iA + 1) = jA := rfl
 clear hpa
 generalize jA = j at *
 generalize iA = i at *
 refine use_fn rfl hsh rfl ?_
 have hij : ¬ i = j := fun e => hne e.symm
 have hpt : pt [(i, h7)] [j, i, j] 3 = ([h7], [j]) := by simp [pt, gt, hij]
 simp -implicitDefEqProofs [c29_k1, hjd, repl, rowsOf, frzV]
 refine use_rd' (s_ixPart hix (d := .fl [[.int .u32 j], [.int .u32 i], [.int .u32 j]]) (ids := [j, i, j]) (.fl _) (fun r t st s e => nomatch e) (by simp; omega) (by simp)) fun v s' ⟨a, b, hv, ha, hb⟩ => ?_
 subst hv
 have hpt' : pt [(i, h7)] [j, i, j] [j, i, j].length = ([h7], [j]) := hpt
 rw [hpt'] at ha hb
 have hal := ha.len s
 have hbl := hb.len s
 have haa := ha.iaddr s (k := .i64) (sz := 32) (i := 0) (hRows_at (h := h7) rfl) rfl
 have hba := hb.iaddr s (k := .i64) (sz := 1) (i := 0) (uRows_at (h := j) rfl) rfl
 rw [hRows_len] at hal
 rw [uRows_len] at hbl
 have hl32 : (hashD h7).length = 32 := by rw [hashD_len, h7_len]
 simp at hal hbl haa hba
 simp -implicitDefEqProofs [-List.reduceReplicate, c29_k0, hal, hbl, haa, hba, mkAgg, ofD, ofD31, h7_D, hjd, hl32, h7_take, eq_hash h7_len h7_len]
 done
theorem un_of {n : Int} (h0 : (IntKind.u64.min : Int) ≤ n) (h1 : n ≤ IntKind.u64.max) : ∃ K : W64, n = un K := by
 have e0 : (IntKind.u64.min : Int) = 0 := rfl
 have e1 : (IntKind.u64.max : Int) = 18446744073709551615 := rfl
 refine ⟨BitVec.ofNat 64 n.toNat, ?_⟩
 simp only [un, BitVec.toNat_ofNat]
 omega
theorem salt_of {x : List D} (h : Lks [.int .u64, .int .u64] x) : ∃ K0 K1 : W64, x = [.int .u64 (un K0), .int .u64 (un K1)] := by
 simp only [Lks, Lk.fits] at h
 obtain ⟨_, _, rfl, ⟨a, rfl, a0, a1⟩, _, _, rfl, ⟨b, rfl, b0, b1⟩, rfl⟩ := h
 obtain ⟨K0, rfl⟩ := un_of a0 a1
 obtain ⟨K1, rfl⟩ := un_of b0 b1
 exact ⟨K0, K1, rfl⟩

theorem digest_of : ∀ (n : Nat) (r : List D), Lks (List.replicate n (.int .u8)) r → ∃ t : List UInt8, t.length = n ∧ r = hashD t
 | 0, r, h => by
  simp only [List.replicate_zero, Lks] at h
  exact ⟨[], rfl, h⟩
 | n + 1, r, h => by
  simp only [List.replicate_succ, Lks, Lk.fits] at h
  obtain ⟨d, r', rfl, ⟨k, rfl, h0, h1⟩, h2⟩ := h
  obtain ⟨t, ht, rfl⟩ := digest_of n r' h2
  have e0 : (IntKind.u8.min : Int) = 0 := rfl
  have e1 : (IntKind.u8.max : Int) = 255 := rfl
  refine ⟨UInt8.ofNat k.toNat :: t, by simp [ht], ?_⟩
  have : ((UInt8.ofNat k.toNat).toNat : Int) = k := by
   simp only [UInt8.toNat_ofNat']
   omega
  simp only [hashD, List.map_cons, this]
abbrev digK : Lk := .list (List.replicate 32 (.int .u8))
theorem digests_fit {d : D} (h : digK.fits d) : ∃ L : List (List UInt8), (∀ t ∈ L, t.length = 32) ∧ LV (.d d) (hRows L) := by
 simp only [Lk.fits] at h
 rcases h with rfl | ⟨rows, rfl, -, hr⟩
 ·exact ⟨[], by simp, .nil⟩
 ·have : ∀ rows : List (List D), (∀ row ∈ rows, Lks (List.replicate 32 (.int .u8)) row) → ∃ L : List (List UInt8), (∀ t ∈ L, t.length = 32) ∧ rows = hRows L := by
   intro rows
   induction rows with
   | nil => exact fun _ => ⟨[], by simp, rfl⟩
   | cons r rows ih =>
    intro h
    obtain ⟨L, hL, rfl⟩ := ih fun row hr => h row (by simp [hr])
    obtain ⟨t, ht, rfl⟩ := digest_of 32 r (h r (by simp))
    exact ⟨t :: L, fun u hu => by
     rcases List.mem_cons.1 hu with rfl | hu
     ·exact ht
     ·exact hL u hu, rfl⟩
  obtain ⟨L, hL, rfl⟩ := this rows hr
  exact ⟨L, hL, .list _⟩

theorem wof_map (M : List Item) (h : ∀ p ∈ M, 0 ≤ p.1 ∧ p.1 ≤ 4294967295) : ((M.map (·.1)).map wof).map un = M.map (·.1) := by
 rw [List.map_map]
 conv => rhs; rw [← List.map_id (M.map (·.1))]
 refine List.map_congr_left fun i hi => ?_
 obtain ⟨p, hp, rfl⟩ := List.mem_map.1 hi
 obtain ⟨h0, h1⟩ := h p hp
 exact un_wof h0 h1
theorem s_ixSketch2 {σ : St} {x q : Nat} {K0 K1 : W64} {es : List Ent} {clock : Nat} {M : List Item} (h : Ix σ x q (un K0) (un K1) es clock M) (ho : Hon K0 K1 M) {n : Nat} (h1 : 1 ≤ n) (h2 : n ≤ 40) {L : List (List UInt8)} (hp : M.Perm (L.map (itemOf K0 K1))) :
  Dn.Call Γ cx .raw 32 [.ref x 0, I n] σ fun w s => ∃ y v, w = .tup [.ref y 0, .d .nili] ∧ SkR s y v (fnL n (osum (L.map (sw K0 K1)))) ∧ Fr [] σ s ∧ s.toks = σ.toks := by
 refine Dn.Call.body (fc := c32) rfl ?_
 simp -implicitDefEqProofs [c32, c32_k2, eqV, V.isNil, Opd.isC, c32_k1, c32_k0]
 refine use_rd' (s_IDs h) fun v s ⟨d, hv, hd⟩ => ?_
 subst hv
 have hb : ∀ i ∈ M.map (·.1), 0 ≤ i ∧ i ≤ 4294967295 := fun i hm => by
  obtain ⟨p, hp, rfl⟩ := List.mem_map.1 hm
  exact h.pl.i p hp
 have hz : (0 : Int) ∉ M.map (·.1) := fun hm => by
  obtain ⟨p, hp, he⟩ := List.mem_map.1 hm
  have h3 := ho p hp
  have h4 := (short_bound K0 K1 p.2).1
  omega
 have hn := h.pl.n
 simp -implicitDefEqProofs
 refine use_raw (s_skNew h1 h2 hd hb hz (by simp; omega)) fun w s2 ⟨hw, hS, hfr, htk⟩ => ?_
 subst hw
 have hacc : acc (fun _ => 0) (M.map (·.1)) = osum (L.map (sw K0 K1)) := by
  rw [← wof_map M h.pl.i, acc_osum]
  funext k
  refine lsum_perm _ ?_
  have e1 : L.map (sw K0 K1) = ((L.map (itemOf K0 K1)).map (·.1)).map wof := by
   rw [List.map_map, List.map_map]
   rfl
  rw [e1]
  exact (hp.map _).map _
 rw [hacc] at hS
 simp -implicitDefEqProofs
 exact ⟨⟨_, hS.toR (by omega)⟩, hfr, htk⟩
end Go.Proofs.Ytmlkdfjojoophaa.T

namespace Go.Proofs.Ytmlkdfjojoophaa.T
open Go.Dn
attribute [local simp] body_eq globEnv GB List.map_nil List.map_cons List.append_nil w_rangeF i_next i_makeMap i_range i_update i_delete i_entry i_clone entryV cloneV q_rndA q_rndB_n q_rndB_e q_rndB_r setAll w_skip w_ops w_seq w_cond w_block w_exit w_ret q_then_n q_then_e q_then_r q_blk_n q_blk_e q_blk_r q_ops q_cont q_end_n q_end_r q_end_e q_loop_n q_loop_e q_loop_r i_nil i_p i_alloc i_box i_store i_copy i_clear i_call i_callv i_when t_nil t_p t_call t_alloc t_box t_store kept_nil t_copy t_clear q_tcont gsel List.cons_append List.nil_append evalP evalE evalF evalB isObj thaw Opd.ev Env.get Env.set Env.pick putE initEnv evalBin intBin evalUn evalConv goneAll goneOne retV resAll Res.ev tupOf byVals byValsN bv_d bv_da bv_fl bv_tl bn_d bn_da bn_fl bn_tl cx Dn.newObj St.place St.push St.spot St.empty cell_d cell_da cell_agg cell_ref cell_sl cell_fl cell_tl cell_map cell_fn cell_ifc loadAt faddrV partOf extractV mkAgg ofD splice St.setObj fillV
set_option linter.unusedSimpArgs false
set_option linter.unusedVariables false
open Sip (num num_lt num_take)

def w4 (l : List UInt8) : W32 := BitVec.ofNat 32 (num l)
end Go.Proofs.Ytmlkdfjojoophaa.T

namespace Go.Proofs.Ytmlkdfjojoophaa.T
open Go.Dn
attribute [local simp] body_eq globEnv GB List.map_nil List.map_cons List.append_nil w_rangeF i_next i_makeMap i_range i_update i_delete i_entry i_clone entryV cloneV q_rndA q_rndB_n q_rndB_e q_rndB_r setAll w_skip w_ops w_seq w_cond w_block w_exit w_ret q_then_n q_then_e q_then_r q_blk_n q_blk_e q_blk_r q_ops q_cont q_end_n q_end_r q_end_e q_loop_n q_loop_e q_loop_r i_nil i_p i_alloc i_box i_store i_copy i_clear i_call i_callv i_when t_nil t_p t_call t_alloc t_box t_store kept_nil t_copy t_clear q_tcont gsel List.cons_append List.nil_append evalP evalE evalF evalB isObj thaw Opd.ev Env.get Env.set Env.pick putE initEnv evalBin intBin evalUn evalConv goneAll goneOne retV resAll Res.ev tupOf byVals byValsN bv_d bv_da bv_fl bv_tl bn_d bn_da bn_fl bn_tl cx Dn.newObj St.place St.push St.spot St.empty cell_d cell_da cell_agg cell_ref cell_sl cell_fl cell_tl cell_map cell_fn cell_ifc loadAt faddrV partOf extractV mkAgg ofD splice St.setObj fillV
set_option linter.unusedSimpArgs false
set_option linter.unusedVariables false

theorem all_zero (L : List W32) : decide (∀ x ∈ L, x = 0) = decide (L = List.replicate L.length 0) := by
 congr 1
 refine propext ⟨fun h => List.eq_replicate_iff.2 ⟨rfl, h⟩, fun h => (List.eq_replicate_iff.1 h).2⟩
end Go.Proofs.Ytmlkdfjojoophaa.T

namespace Go.Proofs.Ytmlkdfjojoophaa.T
open Go.Dn
set_option linter.unusedSimpArgs false
set_option linter.unusedVariables false
open Sip

theorem mp_ex : ∀ {M : List Item}, M.Pairwise (fun a b => a.1 < b.1) → ∃ es clock, Mp es clock M
 | [], _ => ⟨[], 0, ⟨by simp, by simp⟩, by simp⟩
 | p :: M, h => by
  rw [List.pairwise_cons] at h
  obtain ⟨es, clock, hm⟩ := mp_ex h.2
  have e : ins p.1 p.2 M = p :: M := by
   cases M with
   | nil => rfl
   | cons r M =>
    simp only [ins]
    rw [if_pos (h.1 r (by simp))]
  have := hm.put p.1 p.2
  rw [e] at this
  exact ⟨_, _, this⟩
theorem putAll_plain {K0 K1 : W64} : ∀ {L : List (List UInt8)} {M : List Item}, (∀ t ∈ L, t.length = 32) → Plain M → Hon K0 K1 M → M.length + L.length ≤ 89 → Plain (putAll K0 K1 L M).1 ∧ Hon K0 K1 (putAll K0 K1 L M).1
 | [], M, _, h, ho, _ => ⟨h, ho⟩
 | t :: L, M, hL, h, ho, hn => by
  simp only [List.length_cons] at hn
  obtain ⟨p1, p2, p3⟩ := putI_plain h ho (hL t (by simp)) (by omega)
  simp only [putAll]
  split
  ·exact putAll_plain (fun u hu => hL u (by simp [hu])) p1 p2 (by omega)
  ·exact ⟨p1, p2⟩
def IxL (s : St) (K0 K1 : W64) (L : List (List UInt8)) (x : Nat) : Prop := ∃ q es clock M, Ix s x q (un K0) (un K1) es clock M ∧ Hon K0 K1 M ∧ M.Perm (L.map (itemOf K0 K1))
theorem IxL.fr {σ s : St} {K0 K1 : W64} {L : List (List UInt8)} {x : Nat} (h : IxL σ K0 K1 L x) (hf : Fr [] σ s) : IxL s K0 K1 L x := by
 obtain ⟨q, es, clock, M, h1, h2, h3⟩ := h
 exact ⟨q, es, clock, M, h1.mono hf, h2, h3⟩
def newX (σ : St) (K0 K1 : W64) (L : List (List UInt8)) : Post := fun v s => Fr [] σ s ∧ s.toks = σ.toks ∧ ((¬ (L.map (short K0 K1)).Nodup ∧ ∃ c : Int, (c = 5 ∨ c = 6) ∧ v = .tup [.d .nilp, errV c]) ∨ ((L.map (short K0 K1)).Nodup ∧ ∃ x, v = .tup [.ref x 0, .d .nili] ∧ IxL s K0 K1 L x))
theorem newX_ex (σ : St) {K0 K1 : W64} {L : List (List UInt8)} (hL : ∀ t ∈ L, t.length = 32) (hl : L.length ≤ 89) : ∃ v s, newX σ K0 K1 L v s := by
 by_cases hn : (L.map (short K0 K1)).Nodup
 ·obtain ⟨i1, i2⟩ := index_of hn
  obtain ⟨p1, p2⟩ := putAll_plain (K0 := K0) (K1 := K1) (M := []) hL ⟨by simp, by simp, by simp, by simp⟩ (fun p hp => by cases hp) (by simpa using hl)
  obtain ⟨es, clock, hm⟩ := mp_ex p1.up
  refine ⟨.tup [.ref (σ.objs.length + 1) 0, .d .nili], ⟨σ.objs ++ [.map es clock, .cells [U (un K0), U (un K1), .map σ.objs.length]], σ.toks⟩, ⟨by simp, fun r _ hr => by simp only; rw [List.getElem?_append_left hr]⟩, rfl, .inr ⟨hn, _, rfl, σ.objs.length, es, clock, _, ⟨?_, ?_, hm, p1⟩, p2, i2⟩⟩
  ·simp [List.getElem?_append]
  ·simp
 ·exact ⟨.tup [.d .nilp, errV 5], σ, Fr.refl _ _, rfl, .inl ⟨hn, 5, .inl rfl, rfl⟩⟩
theorem s_newX {σ : St} (K0 K1 : W64) {d : V} {L : List (List UInt8)} (hd : LV d (hRows L)) (hL : ∀ t ∈ L, t.length = 32) (hlen : L.length ≤ 89) :
  Dn.Call Γ cx .raw 30 [.da [.int .u64 (un K0), .int .u64 (un K1)], d] σ (newX σ K0 K1 L) := by
 refine (s_New K0 K1 hd hL hlen).mono fun v s hP => ⟨hP.fr, hP.tk, ?_⟩
 rcases hP.r with ⟨h0, x, q, es, clock, hv, -, -, hix, hon⟩ | ⟨h0, hv⟩
 ·obtain ⟨n1, n2⟩ := putAll_nodup (M := []) List.nodup_nil h0
  rw [List.append_nil] at n2
  exact .inr ⟨by simpa using n1, x, hv, q, es, clock, _, hix, hon, n2⟩
 ·refine .inl ⟨fun hn => h0 (index_of hn).1, _, ?_, hv⟩
  rcases putAll_err (K0 := K0) (K1 := K1) (L := L) (M := []) with h | h | h
  ·exact absurd h h0
  ·exact .inl h
  ·exact .inr h

theorem hRows_app (a b : List (List UInt8)) : hRows (a ++ b) = hRows a ++ hRows b := by simp [hRows]
theorem apph {s : St} {v : V} {R : List (List UInt8)} (h : App s 32 v (hRows R)) (hR : ∀ t ∈ R, t.length = 32) {A : List (List UInt8)} (hA : ∀ t ∈ A, t.length = 32) (l : R.length + A.length ≤ 1000) :
  ∃ v' s', (∀ tg, appendV s tg 32 32 v (hRows A) = some (v', s')) ∧ App s' 32 v' (hRows (R ++ A)) ∧ s'.objs = s.objs := by
 obtain ⟨v', s', h1, a1, o1, -, -⟩ := h.push (bytes := 32) (by decide) (hRows_fit hR) (hRows_fit hA) (by simp [hRows_len]; omega) (by simp [hRows_len]; omega)
 rw [← hRows_app] at a1
 exact ⟨v', s', h1, a1, o1⟩

abbrev sdQ : PostC := endQ .val St.empty [.tmp 4] fun v _ => v = B true
structure X8 (s : St) (K0 K1 : W64) (dO dA dC : D) (n : Int) : Prop where
 o0 : s.objs[0]? = some (.cells [Wd K0, Wd K1])
 o1 : s.objs[1]? = some (.cells [.d dO, .d dA, .d dC, I n])
theorem X8.fr {s s' : St} {K0 K1 : W64} {dO dA dC : D} {n : Int} (h : X8 s K0 K1 dO dA dC n) (hf : Fr [] s s') : X8 s' K0 K1 dO dA dC n := ⟨hf.get h.o0 (by simp), hf.get h.o1 (by simp)⟩
structure P8 (dO dA dC : D) (O A C : List (List UInt8)) (n : Nat) : Prop where
 o : LV (.d dO) (hRows O)
 a : LV (.d dA) (hRows A)
 c : LV (.d dC) (hRows C)
 o32 : ∀ t ∈ O, t.length = 32
 a32 : ∀ t ∈ A, t.length = 32
 c32 : ∀ t ∈ C, t.length = 32
 lo : O.length ≤ 20
 la : A.length ≤ 12
 lc : C.length ≤ 12
 n1 : 1 ≤ n
 n40 : n ≤ 40
theorem kept23 {σ s : St} {e : Env} (h2 : e.get 2 = .ref 0 0) (h3 : e.get 3 = .ref 1 0) (hl : 1 < σ.objs.length) (hf : Fr [] σ s) : Kept [2, 3] e σ s := fun t ht r hr => by
 simp only [List.mem_cons, List.not_mem_nil, or_false] at ht
 rcases ht with rfl | rfl
 ·rw [h2] at hr
  simp only [dref, List.mem_singleton] at hr
  subst hr
  exact hf.at_ 0 (by simp) (by omega)
 ·rw [h3] at hr
  simp only [dref, List.mem_singleton] at hr
  subst hr
  exact hf.at_ 1 (by simp) hl
end Go.Proofs.Ytmlkdfjojoophaa.T

namespace Go.Proofs.Ytmlkdfjojoophaa.T
open Go.Dn
attribute [local simp] body_eq globEnv GB List.map_nil List.map_cons List.append_nil w_rangeF i_next i_makeMap i_range i_update i_delete i_entry i_clone entryV cloneV q_rndA q_rndB_n q_rndB_e q_rndB_r setAll w_skip w_ops w_seq w_cond w_block w_exit w_ret q_then_n q_then_e q_then_r q_blk_n q_blk_e q_blk_r q_ops q_cont q_end_n q_end_r q_end_e q_loop_n q_loop_e q_loop_r i_nil i_p i_alloc i_box i_store i_copy i_clear i_call i_callv i_when t_nil t_p t_call t_alloc t_box t_store kept_nil t_copy t_clear q_tcont gsel List.cons_append List.nil_append evalP evalE evalF evalB isObj thaw Opd.ev Env.get Env.set Env.pick putE initEnv evalBin intBin evalUn evalConv goneAll goneOne retV resAll Res.ev tupOf byVals byValsN bv_d bv_da bv_fl bv_tl bn_d bn_da bn_fl bn_tl cx Dn.newObj St.place St.push St.spot St.empty cell_d cell_da cell_agg cell_ref cell_sl cell_fl cell_tl cell_map cell_fn cell_ifc loadAt faddrV partOf extractV mkAgg ofD splice St.setObj fillV
set_option linter.unusedSimpArgs false
set_option linter.unusedVariables false
open Sip

theorem differ8 (A C O : List W32) (k : Nat) : osum (O ++ A) k ^^^ osum (O ++ C) k = osum (A ++ C) k := by
 unfold osum
 rw [lsum_app, lsum_app, lsum_app]
 generalize lsum O _ = o
 generalize lsum A _ = a
 generalize lsum C _ = b
 rw [BitVec.xor_comm o a, BitVec.xor_assoc, ← BitVec.xor_assoc o, Gf.xs, Gf.zx]
theorem law8_k0 {s : St} {K0 K1 : W64} {dO dA dC d dw dm dt do' : D} {n : Nat} {O A C W M : List (List UInt8)} {ot mi : List Int} {T : List W32} (hX : X8 s K0 K1 dO dA dC n) (hP : P8 dO dA dC O A C n) (hd : PL d T) (hT : T.length = A.length + C.length)
  (hw : LV (.d dw) (hRows W)) (hW : W.Perm A) (hm : LV (.d dm) (hRows M)) (hM : M.Perm C) (ho : LV (.d do') (uRows ot)) (lo : ot.length = C.length) (ht : LV (.d dt) (uRows mi)) (lt : mi.length = A.length) :
  wcode (Dn.Call Γ cx) cx c8_k0 [(3, .ref 1 0), (6, .d .nili), (13, .d d), (14, .d dw), (15, .d do'), (16, .d dm), (17, .d dt)] s sdQ := by
 have hld : ∀ σ, lenT σ .slice (.d d) = some T.length := fun σ => by rw [hd.len, pR_len]
 have hlA : ∀ σ, lenT σ .slice (.d dA) = some A.length := fun σ => by rw [hP.a.len, hRows_len]
 have hlC : ∀ σ, lenT σ .slice (.d dC) = some C.length := fun σ => by rw [hP.c.len, hRows_len]
 have hlo : ∀ σ, lenT σ .slice (.d do') = some ot.length := fun σ => by rw [ho.len, uRows_len]
 have hlt : ∀ σ, lenT σ .slice (.d dt) = some mi.length := fun σ => by rw [ht.len, uRows_len]
 have la := hP.la
 have lc := hP.lc
 have o1 := hX.o1
 have w1 : IntKind.i64.wrap ((A.length : Int) + C.length) = (A.length : Int) + C.length := wrap_i64 (by omega) (by omega)
 have e1 : (T.length : Int) = (A.length : Int) + C.length := by omega
 simp -implicitDefEqProofs [c8_k0, eqV, V.isNil, Opd.isC, o1, hld, hlA, hlC, w1, e1]
 refine use_fn (ds := [.d dw, .d dA]) rfl (s_within hw hP.a (fun t ht => hP.a32 t (hW.mem_iff.1 ht)) hP.a32 (by rw [hW.length_eq]; omega) (by omega) (fun t ht => hW.mem_iff.2 ht) hW.length_eq) rfl ?_
 simp -implicitDefEqProofs [o1]
 refine use_fn (ds := [.d dm, .d dC]) rfl (s_within hm hP.c (fun t ht => hP.c32 t (hM.mem_iff.1 ht)) hP.c32 (by rw [hM.length_eq]; omega) (by omega) (fun t ht => hM.mem_iff.2 ht) hM.length_eq) rfl ?_
 simp -implicitDefEqProofs [o1, hlo, lo, hlt, lt, hlA, hlC]
theorem law8_k5 {s : St} {K0 K1 : W64} {dO dA dC : D} {n x y z : Nat} {v : V} {O A C : List (List UInt8)} (hX : X8 s K0 K1 dO dA dC n) (hP : P8 dO dA dC O A C n) (hn : ((O ++ A ++ C).map (short K0 K1)).Nodup) (hx : IxL s K0 K1 (O ++ A) x) (hy : IxL s K0 K1 (O ++ C) y)
  (hz : SkR s z v (zipX (fnL n (osum ((O ++ A).map (sw K0 K1)))) (fnL n (osum ((O ++ C).map (sw K0 K1)))))) :
  wcode (Dn.Call Γ cx) cx c8_k5 [(3, .ref 1 0), (7, .ref x 0), (8, .ref y 0), (12, .ref z 0)] s sdQ := by
 have la := hP.la
 have lc := hP.lc
 have hlA : ∀ σ, lenT σ .slice (.d dA) = some A.length := fun σ => by rw [hP.a.len, hRows_len]
 have hlC : ∀ σ, lenT σ .slice (.d dC) = some C.length := fun σ => by rw [hP.c.len, hRows_len]
 have w1 : IntKind.i64.wrap ((A.length : Int) + C.length) = (A.length : Int) + C.length := wrap_i64 (by omega) (by omega)
 have hzl : (zipX (fnL n (osum ((O ++ A).map (sw K0 K1)))) (fnL n (osum ((O ++ C).map (sw K0 K1))))).length = n := by rw [zipX_len, fnL_len, fnL_len]; omega
 have hzc : ∀ k, k < n → (zipX (fnL n (osum ((O ++ A).map (sw K0 K1)))) (fnL n (osum ((O ++ C).map (sw K0 K1))))).getD k 0 = osum ((A ++ C).map (sw K0 K1)) k := fun k hk => by
  unfold zipX
  rw [fnL_len, fnL_len, fnL_co _ (by omega), fnL_co _ hk, fnL_co _ hk, List.map_append, List.map_append, List.map_append, differ8]
 generalize zipX (fnL n (osum ((O ++ A).map (sw K0 K1)))) (fnL n (osum ((O ++ C).map (sw K0 K1)))) = L at *
 have n1 := hP.n1
 have n40 := hP.n40
 simp -implicitDefEqProofs [c8_k5]
 refine use_raw (s_Decode hz (by omega) (by omega)) fun w s2 ⟨hq, hf, ht⟩ => ?_
 have hX2 := hX.fr hf
 have hx2 := hx.fr hf
 have hy2 := hy.fr hf
 have o1 := hX2.o1
 have gtc : ∀ {v6 v13 : V}, (n : Int) < (A.length : Int) + C.length → wcode (Dn.Call Γ cx) cx c8_k4 [(3, .ref 1 0), (6, v6), (7, .ref x 0), (8, .ref y 0), (13, v13)] s2 sdQ := fun h => by
  simp -implicitDefEqProofs [c8_k4, o1, hlA, hlC, w1, h, c8_k3]
 have hsub : (A ++ C).Sublist (O ++ A ++ C) := by
  rw [List.append_assoc]
  exact List.sublist_append_right _ _
 have hnd : ((A ++ C).map (sw K0 K1)).Nodup := by
  have h1 := hn.sublist (hsub.map (short K0 K1))
  have h2 : ((A ++ C).map (sw K0 K1)).map un = (A ++ C).map (short K0 K1) := by
   rw [List.map_map]
   exact List.map_congr_left fun t _ => un_sw K0 K1 t
  rw [← h2] at h1
  exact List.Pairwise.of_map _ (fun a b h e => h (by rw [e])) h1
 by_cases hgt : (n : Int) < (A.length : Int) + C.length
 ·rcases hq with ⟨rfl, -⟩ | ⟨d, T, rfl, -, -, -⟩
  ·simp -implicitDefEqProofs
   exact gtc hgt
  ·simp -implicitDefEqProofs
   exact gtc hgt
 have hV : Valid L ((A ++ C).map (sw K0 K1)) := ⟨hnd, fun e => by
  obtain ⟨t, -, he⟩ := List.mem_map.1 e
  exact sw_ne K0 K1 t he, by simp; omega, fun k hk => hzc k (by omega)⟩
 rcases hq with ⟨-, hno⟩ | ⟨d, T, rfl, hd, hVT, -⟩
 ·exact absurd hV (hno _)
 have hperm := hVT.unique hV
 have hids : (T.map un).Perm ((A ++ C).map (short K0 K1)) := by
  have h2 : ((A ++ C).map (sw K0 K1)).map un = (A ++ C).map (short K0 K1) := by
   rw [List.map_map]
   exact List.map_congr_left fun t _ => un_sw K0 K1 t
  rw [← h2]
  exact hperm.map un
 have hTl : T.length = A.length + C.length := by rw [hperm.length_eq]; simp
 have hdu : LV (.d d) (uRows (T.map un)) := by rw [uRows_map]; exact hd
 obtain ⟨q1, es1, c1, M1, i1, ho1, p1⟩ := hx2
 obtain ⟨q2, es2, c2, M2, i2, ho2, p2⟩ := hy2
 have hl2 : (T.map un).length ≤ 1000 := by simp; omega
 have hn2 : ((O ++ C ++ A).map (short K0 K1)).Nodup := by
  refine (List.Perm.nodup_iff ?_).1 hn
  refine List.Perm.map _ ?_
  rw [List.append_assoc, List.append_assoc]
  exact List.Perm.append_left _ List.perm_append_comm
 obtain ⟨r1, r2⟩ := part_perm hn p1 hids
 obtain ⟨r3, r4⟩ := part_perm hn2 p2 (hids.trans (List.Perm.map _ List.perm_append_comm))
 simp -implicitDefEqProofs [c8_k4, o1, hlA, hlC, w1, hgt, c8_k3, c8_k2]
 refine use_rd' (s_ixPart i1 hdu (by rintro r t st s h; cases h) (un_bound T) hl2) fun v s3 ⟨a, b, hv, ha, hb⟩ => ?_
 subst hv
 simp -implicitDefEqProofs [c8_k1]
 refine use_rd' (s_ixPart i2 hdu (by rintro r t st s h; cases h) (un_bound T) hl2) fun v s3 ⟨a2, b2, hv, ha2, hb2⟩ => ?_
 subst hv
 simp -implicitDefEqProofs
 exact law8_k0 hX2 hP hd hTl ha r1 ha2 r3 hb r2 hb2 r4

theorem s_ixSk {σ : St} {K0 K1 : W64} {L : List (List UInt8)} {x : Nat} (h : IxL σ K0 K1 L x) {n : Nat} (h1 : 1 ≤ n) (h2 : n ≤ 40) :
  Dn.Call Γ cx .raw 32 [.ref x 0, I n] σ fun w s => ∃ y v, w = .tup [.ref y 0, .d .nili] ∧ SkR s y v (fnL n (osum (L.map (sw K0 K1)))) ∧ Fr [] σ s ∧ s.toks = σ.toks := by
 obtain ⟨q, es, clock, M, i1, i2, i3⟩ := h
 exact s_ixSketch2 i1 i2 h1 h2 i3
theorem law8_k12 {s : St} {K0 K1 : W64} {dO dA dC : D} {n x y : Nat} {O A C : List (List UInt8)} (hX : X8 s K0 K1 dO dA dC n) (hP : P8 dO dA dC O A C n) (hn : ((O ++ A ++ C).map (short K0 K1)).Nodup) (hx : IxL s K0 K1 (O ++ A) x) (hy : IxL s K0 K1 (O ++ C) y) :
  wcode (Dn.Call Γ cx) cx c8_k12 [(3, .ref 1 0), (7, .ref x 0), (8, .ref y 0), (114, B false)] s sdQ := by
 have o1 := hX.o1
 have n1 := hP.n1
 have n40 := hP.n40
 simp -implicitDefEqProofs [c8_k12, o1]
 refine use_raw (s_ixSk hx n1 n40) fun w s2 ⟨p, vp, hw, hp, hf, ht⟩ => ?_
 subst hw
 have hX2 := hX.fr hf
 have o2 := hX2.o1
 simp -implicitDefEqProofs [c8_k11, o2]
 refine use_raw (s_ixSk (hy.fr hf) n1 n40) fun w s3 ⟨q, vq, hw, hq, hf3, ht3⟩ => ?_
 subst hw
 simp -implicitDefEqProofs [c8_k10, eqV, V.isNil, Opd.isC, c8_k9, c8_k8]
 refine use_raw (s_With (hp.fr hf3) hq (by rw [fnL_len]; omega) (by rw [fnL_len]; omega)) fun w s4 ⟨z, v, hw, hz, hf4, ht4⟩ => ?_
 subst hw
 have hX4 := (hX2.fr hf3).fr hf4
 have hx4 := ((hx.fr hf).fr hf3).fr hf4
 have hy4 := ((hy.fr hf).fr hf3).fr hf4
 simp -implicitDefEqProofs [c8_k7, eqV, V.isNil, Opd.isC, c8_k6]
 exact law8_k5 hX4 hP hn hx4 hy4 hz
theorem law8_k14 {s : St} {K0 K1 : W64} {dO dA dC : D} {n w x y : Nat} {O A C : List (List UInt8)} (hX : X8 s K0 K1 dO dA dC n) (hP : P8 dO dA dC O A C n) (hn : ((O ++ A ++ C).map (short K0 K1)).Nodup) (hw : IxL s K0 K1 (O ++ A ++ C) w) (hx : IxL s K0 K1 (O ++ A) x) (hy : IxL s K0 K1 (O ++ C) y) :
  wcode (Dn.Call Γ cx) cx c8_k14 [(3, .ref 1 0), (5, .ref w 0), (6, .d .nili), (7, .ref x 0), (8, .ref y 0), (9, .d .nili)] s sdQ := by
 have o1 := hX.o1
 have lo := hP.lo
 have la := hP.la
 have lc := hP.lc
 have hlO : ∀ σ, lenT σ .slice (.d dO) = some O.length := fun σ => by rw [hP.o.len, hRows_len]
 have hlA : ∀ σ, lenT σ .slice (.d dA) = some A.length := fun σ => by rw [hP.a.len, hRows_len]
 have hlC : ∀ σ, lenT σ .slice (.d dC) = some C.length := fun σ => by rw [hP.c.len, hRows_len]
 have w1 : IntKind.i64.wrap ((O.length : Int) + A.length) = (O.length : Int) + A.length := wrap_i64 (by omega) (by omega)
 have w2 : IntKind.i64.wrap ((O.length : Int) + A.length + C.length) = (O.length : Int) + A.length + C.length := wrap_i64 (by omega) (by omega)
 obtain ⟨q, es, clock, M, i1, i2, i3⟩ := hw
 have hM : (M.length : Int) = (O.length : Int) + A.length + C.length := by
  have := i3.length_eq
  simp at this
  omega
 have hlen : ∀ {s2 : St}, Agr s.objs.length s s2 → Dn.Call Γ cx .rd 31 [.ref w 0] s2 fun v _ => v = I M.length := fun ha =>
  s_ixLen (k0 := un K0) (k1 := un K1) (q := q) (es := es) (clock := clock) ⟨(ha.1 _ (List.getElem?_eq_some_iff.1 i1.o).1).trans i1.o, (ha.1 _ (List.getElem?_eq_some_iff.1 i1.m).1).trans i1.m, i1.mp, i1.pl⟩
 simp only [c8_k14, w_seq]
 refine w_drwX (fun f => if f = 31 then .rd else .val) [] (by decide +kernel) ?_
 simp only [room_zero]
 simp -implicitDefEqProofs [eqV, V.isNil, Opd.isC]
 refine use_rdN rfl (fun s2 ha => hlen ha) ?_
 simp only [q_tcont, putE, Env.set]
 simp -implicitDefEqProofs [o1, hlO, hlA, hlC, w1, w2, hM, c8_k13]
 exact law8_k12 hX hP hn hx hy

theorem room_fr2 {s s4 : St} {k : Nat} (h : s4.objs = (s.room k).objs) : Fr [] s s4 := ⟨by rw [h]; simp [St.room], fun q _ hq => by rw [h]; show (s.objs ++ _)[q]? = _; rw [List.getElem?_append_left hq]⟩
theorem law8_k15 {s : St} {K0 K1 : W64} {dO dA dC : D} {n w x : Nat} {O A C : List (List UInt8)} (hX : X8 s K0 K1 dO dA dC n) (hP : P8 dO dA dC O A C n) (hn : ((O ++ A ++ C).map (short K0 K1)).Nodup) (hw : IxL s K0 K1 (O ++ A ++ C) w) (hx : IxL s K0 K1 (O ++ A) x) :
  wcode (Dn.Call Γ cx) cx c8_k15 [(2, .ref 0 0), (3, .ref 1 0), (5, .ref w 0), (6, .d .nili), (7, .ref x 0)] s sdQ := by
 have lo := hP.lo
 have lc := hP.lc
 obtain ⟨v1, s3, p1, a1, o1⟩ := apph (s := s.room 2) (v := .fl []) (R := []) (.fl []) (by simp) hP.o32 (by simp; omega)
 rw [List.nil_append] at a1
 obtain ⟨v2, s4, p2, a2, o2⟩ := apph a1 hP.o32 hP.c32 (by omega)
 have o24 : s4.objs = (s.room 2).objs := o2.trans o1
 have hf4 : Fr [] s s4 := room_fr2 o24
 have hXR := hX.fr (room_fr2 (s := s) (k := 2) rfl)
 have hX3 := hX.fr (room_fr2 (s := s) (k := 2) o1)
 have hX4 := hX.fr hf4
 have q0 := hXR.o0
 have q1 := hXR.o1
 have r1 := hX3.o1
 have l4 := (List.getElem?_eq_some_iff.1 hX4.o1).1
 have hsub : (O ++ C).Sublist (O ++ A ++ C) := by
  rw [List.append_assoc]
  exact List.Sublist.append_left (List.sublist_append_right _ _) _
 have hnd : ((O ++ C).map (short K0 K1)).Nodup := hn.sublist (hsub.map _)
 have h32 : ∀ t ∈ O ++ C, t.length = 32 := fun t ht => (List.mem_append.1 ht).elim (hP.o32 t) (hP.c32 t)
 have hl : (O ++ C).length ≤ 89 := by simp; omega
 simp only [c8_k15, w_seq]
 refine w_drwX (fun f => if f = 30 then .raw else .val) [2, 3] (by decide +kernel) ?_
 generalize s.room 2 = sR at *
 simp -implicitDefEqProofs [-List.reduceReplicate, isObj, repl, rowsOf, frzV, q0, q1, mkAgg, ofD]
 refine t_app_f (v := v1) (s := s3) ?_ ?_ (fun _ t ht q hq => by rw [o1])
 ·simp [evalE, Opd.ev, Env.get, hP.o.rows]
  exact p1 _
 simp -implicitDefEqProofs [r1]
 refine t_app_f (v := v2) (s := s4) ?_ ?_ (fun _ t ht q hq => by rw [o24, o1])
 ·simp [evalE, Opd.ev, Env.get, hP.c.rows]
  exact p2 _
 simp -implicitDefEqProofs
 refine use_rawN rfl (s_newX K0 K1 a2.lv h32 hl) (newX_ex _ h32 hl) fun w s5 ⟨hf5, ht5, hq⟩ => ⟨kept23 rfl rfl l4 hf5, ?_⟩
 rcases hq with ⟨hb, -⟩ | ⟨-, y, rfl, hy⟩
 ·exact absurd hnd hb
 simp only [q_tcont, putE, Env.set]
 simp -implicitDefEqProofs
 exact law8_k14 (hX4.fr hf5) hP hn (hw.fr (hf4.trans hf5)) (hx.fr (hf4.trans hf5)) hy
theorem law8_k16 {s : St} {K0 K1 : W64} {dO dA dC : D} {n w : Nat} {O A C : List (List UInt8)} (hX : X8 s K0 K1 dO dA dC n) (hP : P8 dO dA dC O A C n) (hn : ((O ++ A ++ C).map (short K0 K1)).Nodup) (hw : IxL s K0 K1 (O ++ A ++ C) w) :
  wcode (Dn.Call Γ cx) cx c8_k16 [(2, .ref 0 0), (3, .ref 1 0), (5, .ref w 0), (6, .d .nili), (62, B false)] s sdQ := by
 have lo := hP.lo
 have la := hP.la
 obtain ⟨v1, s3, p1, a1, o1⟩ := apph (s := s.room 2) (v := .fl []) (R := []) (.fl []) (by simp) hP.o32 (by simp; omega)
 rw [List.nil_append] at a1
 obtain ⟨v2, s4, p2, a2, o2⟩ := apph a1 hP.o32 hP.a32 (by omega)
 have o24 : s4.objs = (s.room 2).objs := o2.trans o1
 have hf4 : Fr [] s s4 := room_fr2 o24
 have hXR := hX.fr (room_fr2 (s := s) (k := 2) rfl)
 have hX3 := hX.fr (room_fr2 (s := s) (k := 2) o1)
 have hX4 := hX.fr hf4
 have q0 := hXR.o0
 have q1 := hXR.o1
 have r1 := hX3.o1
 have l4 := (List.getElem?_eq_some_iff.1 hX4.o1).1
 have hsub : (O ++ A).Sublist (O ++ A ++ C) := List.sublist_append_left _ _
 have hnd : ((O ++ A).map (short K0 K1)).Nodup := hn.sublist (hsub.map _)
 have h32 : ∀ t ∈ O ++ A, t.length = 32 := fun t ht => (List.mem_append.1 ht).elim (hP.o32 t) (hP.a32 t)
 have hl : (O ++ A).length ≤ 89 := by simp; omega
 simp only [c8_k16, w_seq]
 refine w_drwX (fun f => if f = 30 then .raw else .val) [2, 3] (by decide +kernel) ?_
 generalize s.room 2 = sR at *
 simp -implicitDefEqProofs [-List.reduceReplicate, isObj, repl, rowsOf, frzV, q0, q1, mkAgg, ofD]
 refine t_app_f (v := v1) (s := s3) ?_ ?_ (fun _ t ht q hq => by rw [o1])
 ·simp [evalE, Opd.ev, Env.get, hP.o.rows]
  exact p1 _
 simp -implicitDefEqProofs [r1]
 refine t_app_f (v := v2) (s := s4) ?_ ?_ (fun _ t ht q hq => by rw [o24, o1])
 ·simp [evalE, Opd.ev, Env.get, hP.a.rows]
  exact p2 _
 simp -implicitDefEqProofs
 refine use_rawN rfl (s_newX K0 K1 a2.lv h32 hl) (newX_ex _ h32 hl) fun w s5 ⟨hf5, ht5, hq⟩ => ⟨kept23 rfl rfl l4 hf5, ?_⟩
 rcases hq with ⟨hb, -⟩ | ⟨-, y, rfl, hy⟩
 ·exact absurd hnd hb
 simp only [q_tcont, putE, Env.set]
 simp -implicitDefEqProofs
 exact law8_k15 (hX4.fr hf5) hP hn (hw.fr (hf4.trans hf5)) hy
theorem law8_k19 {s : St} {K0 K1 : W64} {dO dA dC : D} {n : Nat} {O A C : List (List UInt8)} (hX : X8 s K0 K1 dO dA dC n) (hP : P8 dO dA dC O A C n) :
  wcode (Dn.Call Γ cx) cx c8_k19 [(2, .ref 0 0), (3, .ref 1 0), (45, B false)] s sdQ := by
 have lo := hP.lo
 have la := hP.la
 have lc := hP.lc
 obtain ⟨v1, s3, p1, a1, o1⟩ := apph (s := s.room 3) (v := .fl []) (R := []) (.fl []) (by simp) hP.o32 (by simp; omega)
 rw [List.nil_append] at a1
 obtain ⟨v2, s4, p2, a2, o2⟩ := apph a1 hP.o32 hP.a32 (by omega)
 have hOA : ∀ t ∈ O ++ A, t.length = 32 := fun t ht => (List.mem_append.1 ht).elim (hP.o32 t) (hP.a32 t)
 obtain ⟨v3, s6, p3, a3, o3⟩ := apph a2 hOA hP.c32 (by simp; omega)
 have o24 : s4.objs = (s.room 3).objs := o2.trans o1
 have o36 : s6.objs = (s.room 3).objs := o3.trans o24
 have hf6 : Fr [] s s6 := room_fr2 o36
 have hXR := hX.fr (room_fr2 (s := s) (k := 3) rfl)
 have hX3 := hX.fr (room_fr2 (s := s) (k := 3) o1)
 have hX4 := hX.fr (room_fr2 (s := s) (k := 3) o24)
 have hX6 := hX.fr hf6
 have q0 := hXR.o0
 have q1 := hXR.o1
 have r1 := hX3.o1
 have r4 := hX4.o1
 have l6 := (List.getElem?_eq_some_iff.1 hX6.o1).1
 have h32 : ∀ t ∈ O ++ A ++ C, t.length = 32 := fun t ht => (List.mem_append.1 ht).elim (hOA t) (hP.c32 t)
 have hl : (O ++ A ++ C).length ≤ 89 := by simp; omega
 simp only [c8_k19, w_seq]
 refine w_drwX (fun f => if f = 30 then .raw else .val) [2, 3] (by decide +kernel) ?_
 generalize s.room 3 = sR at *
 simp -implicitDefEqProofs [-List.reduceReplicate, isObj, repl, rowsOf, frzV, q0, q1, mkAgg, ofD]
 refine t_app_f (v := v1) (s := s3) ?_ ?_ (fun _ t ht q hq => by rw [o1])
 ·simp [evalE, Opd.ev, Env.get, hP.o.rows]
  exact p1 _
 simp -implicitDefEqProofs [r1]
 refine t_app_f (v := v2) (s := s4) ?_ ?_ (fun _ t ht q hq => by rw [o24, o1])
 ·simp [evalE, Opd.ev, Env.get, hP.a.rows]
  exact p2 _
 simp -implicitDefEqProofs [r4]
 refine t_app_f (v := v3) (s := s6) ?_ ?_ (fun _ t ht q hq => by rw [o36, o24])
 ·simp [evalE, Opd.ev, Env.get, hP.c.rows]
  exact p3 _
 simp -implicitDefEqProofs
 refine use_rawN rfl (s_newX K0 K1 a3.lv h32 hl) (newX_ex _ h32 hl) fun w s5 ⟨hf5, ht5, hq⟩ => ⟨kept23 rfl rfl l6 hf5, ?_⟩
 rcases hq with ⟨hb, c, hc, rfl⟩ | ⟨hn, y, rfl, hy⟩
 ·simp only [q_tcont, putE, Env.set]
  rcases hc with rfl | rfl
  ·have e5 : errV 5 = .d (.iface 39 (.int .i64 5)) := rfl
   simp -implicitDefEqProofs [c8_k18, e5, eqV, V.isNil, Opd.isC, c8_k17]
   refine use_fn (ds := [errV 5, I 6]) rfl (s_Is 5 6) rfl ?_
   simp -implicitDefEqProofs
   refine use_fn (ds := [errV 5, I 5]) rfl (s_Is 5 5) rfl ?_
   simp -implicitDefEqProofs
  ·have e6 : errV 6 = .d (.iface 39 (.int .i64 6)) := rfl
   simp -implicitDefEqProofs [c8_k18, e6, eqV, V.isNil, Opd.isC, c8_k17]
   refine use_fn (ds := [errV 6, I 6]) rfl (s_Is 6 6) rfl ?_
   simp -implicitDefEqProofs
 simp only [q_tcont, putE, Env.set]
 simp -implicitDefEqProofs [c8_k18, eqV, V.isNil, Opd.isC, c8_k17]
 exact law8_k16 (hX6.fr hf5) hP hn hy

theorem law8 {x0 x1 : List D} (h0 : Lks [.int .u64, .int .u64] x0) (h1 : Lks [digK, digK, digK, .int .i64] x1) : Dn.Call Γ cx .val 8 [.da x0, .da x1] St.empty fun r _ => r = B true := by
 obtain ⟨K0, K1, rfl⟩ := salt_of h0
 simp only [Lks] at h1
 obtain ⟨dO, r0, rfl, fO, dA, r1, rfl, fA, dC, r2, rfl, fC, d3, r3, rfl, ⟨c, rfl, -, -⟩, rfl⟩ := h1
 obtain ⟨O, o32, hO⟩ := digests_fit fO
 obtain ⟨A, a32, hA⟩ := digests_fit fA
 obtain ⟨C, c32, hC⟩ := digests_fit fC
 refine Dn.Call.body (fc := c8) rfl ?_
 have hlO : ∀ σ, lenT σ .slice (.d dO) = some O.length := fun σ => by rw [hO.len, hRows_len]
 have hlA : ∀ σ, lenT σ .slice (.d dA) = some A.length := fun σ => by rw [hA.len, hRows_len]
 have hlC : ∀ σ, lenT σ .slice (.d dC) = some C.length := fun σ => by rw [hC.len, hRows_len]
 simp -implicitDefEqProofs [c8, c8_k23]
 refine use_fn rfl s_alive22 rfl ?_
 by_cases g1 : (20 : Int) < O.length
 ·simp -implicitDefEqProofs [c8_k22, c8_k21, hlO, g1, c8_k20]
 by_cases g2 : (12 : Int) < A.length
 ·simp -implicitDefEqProofs [c8_k22, c8_k21, hlO, g1, hlA, g2, c8_k20]
 by_cases g3 : (12 : Int) < C.length
 ·simp -implicitDefEqProofs [c8_k22, c8_k21, hlO, g1, hlA, g2, hlC, g3, c8_k20]
 by_cases g4 : c < 1
 ·simp -implicitDefEqProofs [c8_k22, c8_k21, hlO, g1, hlA, g2, hlC, g3, g4, c8_k20]
 by_cases g5 : (40 : Int) < c
 ·simp -implicitDefEqProofs [c8_k22, c8_k21, hlO, g1, hlA, g2, hlC, g3, g4, g5, c8_k20]
 simp -implicitDefEqProofs [c8_k22, c8_k21, hlO, g1, hlA, g2, hlC, g3, g4, g5, c8_k20]
 obtain ⟨n, rfl⟩ : ∃ n : Nat, c = (n : Int) := ⟨c.toNat, by omega⟩
 exact law8_k19 (s := ⟨[.cells [Wd K0, Wd K1], .cells [.d dO, .d dA, .d dC, I n]], []⟩) ⟨rfl, rfl⟩ ⟨hO, hA, hC, o32, a32, c32, by omega, by omega, by omega, by omega, by omega⟩
end Go.Proofs.Ytmlkdfjojoophaa.T
