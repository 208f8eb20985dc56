import Derived.Test.YtmcojkkpanijjaaE29
namespace Go.Proofs.Ytmcojkkpanijjaa.T
open Go.Dn
attribute [local simp] body_eq globEnv GB List.map_nil List.map_cons List.append_nil w_rangeF i_next i_makeMap i_range i_update i_delete i_entry i_clone entryV cloneV q_rndA q_rndB_n q_rndB_e q_rndB_r setAll w_skip w_ops w_seq w_cond w_block w_exit w_ret q_then_n q_then_e q_then_r q_blk_n q_blk_e q_blk_r q_ops q_cont q_end_n q_end_r q_end_e q_loop_n q_loop_e q_loop_r i_nil i_p i_alloc i_box i_store i_copy i_clear i_call i_callv i_when t_nil t_p t_call t_alloc t_box t_store kept_nil t_copy t_clear q_tcont gsel List.cons_append List.nil_append evalP evalE evalF evalB isObj thaw Opd.ev Env.get Env.set Env.pick putE initEnv evalBin intBin evalUn evalConv goneAll goneOne retV resAll Res.ev tupOf byVals byValsN bv_d bv_da bv_fl bv_tl bn_d bn_da bn_fl bn_tl cx Dn.newObj St.place St.push St.spot St.empty cell_d cell_da cell_agg cell_ref cell_sl cell_fl cell_tl cell_map cell_fn cell_ifc loadAt faddrV partOf extractV mkAgg ofD splice St.setObj fillV
set_option linter.unusedSimpArgs false
set_option linter.unusedVariables false
open Sip

/-! ### the law's end: how ids are parted -/
theorem eq_bool (a b : Bool) (x y : Bool) : eqV .bool [] (B a) (B b) x y = some (a == b) := rfl
theorem App.br {σ : St} {sz : Nat} {v : V} {rows : List (List D)} (h : App σ sz v rows) : v.borrows = false := by cases h <;> rfl
abbrev lawQ : PostC := endQ .val St.empty [Res.tmp 6] fun v _ => v = B true
theorem uRows_app (a b : List Int) : uRows (a ++ b) = uRows a ++ uRows b := by simp [uRows]

theorem law_k3 {s : St} {x q : Nat} {k0 k1 : Int} {es : List Ent} {clock : Nat} {M : List Item} (h : Ix s x q k0 k1 es clock M) {d di : D} (hd : LV (.d d) (mRows M)) {ids : List Int} (hi : LV (.d di) (uRows ids)) (hids : ∀ i ∈ ids, 0 ≤ i ∧ i ≤ 4294967295) (hlen : ids.length ≤ 100) {w1 w2 w3 w4 : V} :
    wcode (Dn.Call Γ cx) cx c3_k3 [(2, .d di), (7, .ref x 0), (9, .d d), (90, w1), (91, w2), (92, w3), (93, w4)] s lawQ := by
  have hn := h.pl.n
  have hrows := hi.rows s
  obtain ⟨v1, s1, hap, happ, ho, -, -⟩ := (App.fl (σ := s) (sz := 1) []).push (bytes := 4) (by decide) (by simp) (ys := uRows ids) (uRows_fit _) (by simp [uRows_len]; omega) (by simp [uRows_len]; omega)
  rw [List.nil_append] at happ
  have h1 : Ix s1 x q k0 k1 es clock M := h.mono ⟨by rw [ho]; omega, fun r _ hr => by rw [ho]⟩
  simp -implicitDefEqProofs [c3_k3, repl, rowsOf]
  refine i_app_f (v := v1) (s := s1) ?_ ?_
  · simp -implicitDefEqProofs [hrows]
    exact hap none
  simp -implicitDefEqProofs
  refine use_val rfl (s_rIDs hd h.pl.h (by omega)) fun v _ ⟨d3, hv, hd3⟩ => ?_
  subst hv
  refine ⟨rfl, (fun h => by cases h), ?_⟩
  obtain ⟨v2, s2, hap2, happ2, ho2, -, -⟩ := happ.push (bytes := 4) (by decide) (uRows_fit _) (ys := uRows (M.map (·.1))) (uRows_fit _) (by simp [uRows_len]; omega) (by simp [uRows_len]; omega)
  have hrows3 := hd3.rows s1
  have h2 : Ix s2 x q k0 k1 es clock M := h1.mono ⟨by rw [ho2]; omega, fun r _ hr => by rw [ho2]⟩
  rw [← uRows_app] at happ2
  simp -implicitDefEqProofs
  refine i_app_f (v := v2) (s := s2) ?_ ?_
  · simp -implicitDefEqProofs [hrows3]
    exact hap2 none
  have hall : ∀ i ∈ ids ++ M.map (·.1), 0 ≤ i ∧ i ≤ 4294967295 := fun i hm => by
    rcases List.mem_append.1 hm with hm | hm
    · exact hids i hm
    · obtain ⟨p, hp, rfl⟩ := List.mem_map.1 hm
      exact h.pl.i p hp
  have hal : (ids ++ M.map (·.1)).length ≤ 1000 := by simp; omega
  generalize ids ++ M.map (·.1) = all at *
  simp -implicitDefEqProofs [c3_k2]
  refine use_rd' (s_ixPart h2 happ2.lv happ2.tls hall hal) fun v _ ⟨a, b, hv, ha, hb⟩ => ?_
  subst hv
  simp -implicitDefEqProofs [c3_k1]
  have hdv := happ2.lv.dv s2
  obtain ⟨y, hy⟩ := hdv.2.2.1
  have hbr := App.br happ2
  refine use_val (ds := [.d d, .d y]) (by simp only [byVals, bv_d, hdv.1, hy]) (s_rPart hd h.pl.h (by omega) (hy ▸ hdv.2.1) hal) fun v _ ⟨a2, b2, hv, ha2, hb2⟩ => ?_
  subst hv
  refine ⟨rfl, (fun h => by simp only [List.any_cons, List.any_nil, hbr] at h; cases h), ?_⟩
  simp -implicitDefEqProofs [c3_k0]
  have hpl := pt_len M all all.length
  refine use_fn rfl (s_Hashes ha ha2 (pt_32 h.pl.h all _) (by omega)) rfl ?_
  simp -implicitDefEqProofs
  refine use_fn rfl (s_Words hb hb2 (by omega)) rfl ?_
  simp -implicitDefEqProofs

/-! ### the law's ids -/
def z32 : List UInt8 := List.replicate 32 0
theorem z32_len : z32.length = 32 := rfl
theorem z32_D : hashD z32 = List.replicate 32 (.int .u8 0) := rfl
theorem gotV_eq (o : Option (List UInt8)) : gotV o = .tup [.da (hashD (o.getD z32)), B o.isSome] := by cases o <;> rfl
theorem gt_32 {M : List Item} (hM : ∀ p ∈ M, p.2.length = 32) (i : Int) : ((gt M i).getD z32).length = 32 := by
  cases hg : gt M i with
  | none => rfl
  | some t => exact hM _ (gt_some hg)

def InvGet (x q : Nat) (k0 k1 : Int) (M : List Item) (d di : D) (v : V) (n : Nat) (m : Nat) (e : Env) (s : St) : Prop := ∃ i : Nat, e = [(2, .d di), (7, .ref x 0), (9, .d d), (90, v), (91, I n), (92, I i)] ∧ i ≤ n ∧ m = n - i ∧ ∃ es clock, Ix s x q k0 k1 es clock M

theorem law_k13 {s : St} {x q : Nat} {k0 k1 : Int} {es : List Ent} {clock : Nat} {M : List Item} (h : Ix s x q k0 k1 es clock M) {d di : D} (hd : LV (.d d) (mRows M)) {ids : List Int} (hi : LV (.d di) (uRows ids)) (hids : ∀ i ∈ ids, 0 ≤ i ∧ i ≤ 4294967295) (hlen : ids.length ≤ 100) {w1 w2 w3 w4 : V} :
    wcode (Dn.Call Γ cx) cx c3_k13 [(2, .d di), (7, .ref x 0), (9, .d d), (59, w1), (60, w2), (61, w3), (62, w4)] s lawQ := by
  have hn := h.pl.n
  have hrows := fun s => hi.rows s
  simp -implicitDefEqProofs [c3_k13]
  refine use_raw (s_rIDsR hd h.pl.h (by omega)) fun v1 s1 hT => ?_
  obtain ⟨v2, s2, hap, happ, ho, -, -⟩ := hT.pa.push (bytes := 4) (by decide) (uRows_fit _) (ys := uRows ids) (uRows_fit _) (by simp [uRows_len]; omega) (by simp [uRows_len]; omega)
  rw [← uRows_app] at happ
  have h2 : Ix s2 x q k0 k1 es clock M := (h.mono hT.fr).mono ⟨by rw [ho]; omega, fun r _ hr => by rw [ho]⟩
  simp -implicitDefEqProofs
  refine i_app_f (v := v2) (s := s2) ?_ ?_
  · simp -implicitDefEqProofs [hrows]
    exact hap none
  have hall : ∀ i ∈ M.map (·.1) ++ ids, 0 ≤ i ∧ i ≤ 4294967295 := fun i hm => by
    rcases List.mem_append.1 hm with hm | hm
    · obtain ⟨p, hp, rfl⟩ := List.mem_map.1 hm
      exact h.pl.i p hp
    · exact hids i hm
  have hal : (M.map (·.1) ++ ids).length ≤ 1000 := by simp; omega
  generalize M.map (·.1) ++ ids = all at *
  have hla : ∀ σ, lenT σ .slice v2 = some all.length := fun σ => by rw [happ.lv.len, uRows_len]
  simp -implicitDefEqProofs [hla, c3_k12]
  refine wloopI (InvGet x q k0 k1 M d di v2 all.length) (m := all.length) ⟨0, rfl, by omega, rfl, es, clock, h2⟩ ?_
  rintro m e s ⟨i, rfl, hil, rfl, es, clock, hs⟩
  by_cases hia : i < all.length
  rotate_left
  · obtain rfl : i = all.length := by omega
    simp -implicitDefEqProofs [c3_l11, c3_k10]
    exact law_k3 hs hd hi hids hlen
  have hii : (i : Int) < all.length := by omega
  obtain ⟨n, hn'⟩ : ∃ n, all[i]? = some n := ⟨_, List.getElem?_eq_getElem hia⟩
  have hnb := hall n (List.mem_of_getElem? hn')
  have hiv := fun σ => happ.lv.iaddr σ (k := .i64) (sz := 1) (i := i) (uRows_at hn') rfl
  have ht := gt_32 h.pl.h n
  simp -implicitDefEqProofs [-List.reduceReplicate, c3_l11, c3_k10, hii, c3_k9, c3_k8, hiv]
  simp -implicitDefEqProofs [-List.reduceReplicate, c3_k7]
  refine use_rd (s_ixGet hs hnb.1 hnb.2) ?_
  rw [gotV_eq]
  have hzl : (List.replicate 32 (V.d (.int .u8 0))).length = 32 := List.length_replicate
  have hzd : (List.replicate 32 (V.d (.int .u8 0))).drop 32 = [] := List.drop_of_length_le (by rw [hzl]; omega)
  have hget := s_rGet hd h.pl.h (by omega) n
  rw [gotV_eq] at hget
  generalize (gt M n).getD z32 = t at *
  generalize (gt M n).isSome = b at *
  simp -implicitDefEqProofs [-List.reduceReplicate, hashD_byV, byV_len, ht, hzd]
  simp -implicitDefEqProofs [-List.reduceReplicate, c3_k6]
  refine use_fn rfl hget rfl ?_
  simp -implicitDefEqProofs [-List.reduceReplicate, hashD_byV, byV_len, ht, hzd]
  simp -implicitDefEqProofs [-List.reduceReplicate, c3_k5, byV_len, ht, byV_take ht, ofD_byV, eq_hash ht ht, eq_bool, c3_k4, wrap_i64 (n := (i : Int) + 1) (by omega) (by omega)]
  exact ⟨all.length - (i + 1), by omega, i + 1, rfl, by omega, rfl, es, clock, hs.mono ⟨by simp, fun r _ hr => by simp only; rw [List.getElem?_append_left hr]⟩⟩

open Sip

/-! ### the law's acts -/
theorem hasM_mem {K0 K1 : W64} {M : List Item} (h : Plain M) (ho : Hon K0 K1 M) (t : List UInt8) : hasM K0 K1 M t = decide (t ∈ M.map (·.2)) := by
  rw [Bool.eq_iff_iff, hasM_iff h, decide_eq_true_eq, List.mem_map]
  constructor
  · exact fun hm => ⟨_, hm, rfl⟩
  · rintro ⟨p, hp, rfl⟩
    rw [← ho p hp]
    exact hp

structure LawS (s : St) (x q : Nat) (K0 K1 : W64) (M : List Item) : Prop where
  ix : ∃ es clock, Ix s x q (un K0) (un K1) es clock M
theorem LawS.grow {s : St} {x q : Nat} {K0 K1 : W64} {M : List Item} (h : LawS s x q K0 K1 M) (l : List Dn.Obj) : LawS ⟨s.objs ++ l, s.toks⟩ x q K0 K1 M := by
  obtain ⟨es, clock, hi⟩ := h.ix
  exact ⟨es, clock, hi.mono ⟨by simp, fun r _ hr => by simp only; rw [List.getElem?_append_left hr]⟩⟩

def InvA (x q : Nat) (K0 K1 : W64) (M : List Item) (d di ds : D) (n : Nat) (m : Nat) (e : Env) (s : St) : Prop := ∃ i : Nat, e = [(2, .d di), (7, .ref x 0), (9, .d d), (59, .d ds), (60, I n), (61, I i)] ∧ i ≤ n ∧ m = n - i ∧ LawS s x q K0 K1 M
def InvB (x q r : Nat) (K0 K1 : W64) (M : List Item) (d di ds dh : D) (n i : Nat) (a : Act) (H : List (List UInt8)) (m : Nat) (e : Env) (s : St) : Prop := ∃ k : Nat, e = [(2, .d di), (7, .ref x 0), (9, .d d), (12, .ref r 0), (13, B (decide (a.2 ∈ H.take k))), (59, .d ds), (60, I n), (61, I i), (66, .d dh), (67, I H.length), (68, I k)] ∧ k ≤ H.length ∧ m = H.length - k ∧ LawS s x q K0 K1 M ∧ s.objs[r]? = some (.cells (B a.1 :: byV a.2))

abbrev actQ (x q : Nat) (K0 K1 : W64) (M : List Item) (d di ds : D) (n i : Nat) : PostC := blkQ 1
   (thenQ (Dn.Call Γ cx) cx
     (C.ops [2, 7, 9, 59, 60, 61] [Ins.p (some 86) (POp.bin BinOp.add Ty.int [] (Opd.t 61) (Opd.c (D.int IntKind.i64 1))), Ins.p (some 61) (POp.move (Opd.t 86))])
     (loopQ (InvA x q K0 K1 M d di ds n) (n - i) [2, 7, 9, 59, 60, 61]
       (blkQ 0 (thenQ (Dn.Call Γ cx) cx c3_k13 lawQ))))

theorem law_k22 {s : St} {x q r : Nat} {K0 K1 : W64} {M : List Item} (h : LawS s x q K0 K1 M) (ho : Hon K0 K1 M) {d di ds : D} (hd : LV (.d d) (mRows M)) {n i : Nat} (hi : i < n) (hn : n ≤ 100) {a : Act} (ha : a.2.length = 32) (oc : s.objs[r]? = some (.cells (B a.1 :: byV a.2))) :
    wcode (Dn.Call Γ cx) cx c3_k22 [(2, .d di), (7, .ref x 0), (9, .d d), (12, .ref r 0), (59, .d ds), (60, I n), (61, I i)] s (actQ x q K0 K1 M d di ds n i) := by
  obtain ⟨es, clock, hix⟩ := h.ix
  have hpl := hix.pl
  have hn49 := hpl.n
  simp -implicitDefEqProofs [c3_k22, c3_k21]
  refine use_val rfl (s_rHashes hd hpl.h (by omega)) fun v _ ⟨dh, hv, hdh⟩ => ?_
  subst hv
  refine ⟨rfl, (fun h => by cases h), ?_⟩
  have hH : ∀ t ∈ M.map (·.2), t.length = 32 := fun t ht => by obtain ⟨p, hp, rfl⟩ := List.mem_map.1 ht; exact hpl.h p hp
  have hHl : (M.map (·.2)).length ≤ 49 := by simpa using hn49
  have hhas := hasM_mem hpl ho a.2
  generalize M.map (·.2) = H at *
  have hlh : ∀ σ, lenT σ .slice (.d dh) = some H.length := fun σ => by rw [hdh.len, hRows_len]
  simp -implicitDefEqProofs [hlh, c3_k20]
  refine wloopI (InvB x q r K0 K1 M d di ds dh n i a H) (m := H.length) ⟨0, by simp [Env.pick, Env.get], by omega, rfl, h, oc⟩ ?_
  rintro m e s ⟨k, rfl, hk, rfl, hs, oc⟩
  by_cases hkl : k < H.length
  rotate_left
  · obtain rfl : k = H.length := by omega
    rw [List.take_length]
    obtain ⟨es, clock, hix2⟩ := hs.ix
    simp -implicitDefEqProofs [c3_l19, c3_k18]
    simp -implicitDefEqProofs [c3_k15, oc, byV_len, ha, byV_take ha, ofD_byV]
    refine use_rd (s_ixHas hix2 ha) ?_
    rw [hhas]
    simp -implicitDefEqProofs [c3_k14, eq_bool, wrap_i64 (n := (i : Int) + 1) (by omega) (by omega)]
    exact ⟨n - (i + 1), by omega, i + 1, rfl, by omega, rfl, hs⟩
  have hkk : (k : Int) < H.length := by omega
  obtain ⟨g, hg⟩ : ∃ g, H[k]? = some g := ⟨_, List.getElem?_eq_getElem hkl⟩
  have hg32 := hH g (List.mem_of_getElem? hg)
  have hgl := hashD_len g
  rw [hg32] at hgl
  have htk : List.take 32 (hashD g) = hashD g := List.take_of_length_le (by omega)
  have hia := fun σ => hdh.iaddr σ (k := .i64) (sz := 32) (i := k) (hRows_at hg) hgl
  have hta : H.take (k + 1) = H.take k ++ [g] := by rw [List.take_add_one, hg]; rfl
  have hzl : (List.replicate 32 (V.d (.int .u8 0))).length = 32 := List.length_replicate
  have hzd : (List.replicate 32 (V.d (.int .u8 0))).drop 32 = [] := List.drop_of_length_le (by rw [hzl]; omega)
  have hrl : r < s.objs.length := (List.getElem?_eq_some_iff.1 oc).1
  have oc2 : ∀ o, (s.objs ++ [o])[r]? = some (.cells (B a.1 :: byV a.2)) := fun o => by rw [List.getElem?_append_left hrl]; exact oc
  clear hkl hrl
  simp -implicitDefEqProofs [-List.reduceReplicate, c3_l19, c3_k18, hkk, c3_k17, hia, hgl, htk, hashD_byV, byV_len, hg32, hzd]
  by_cases hmem : a.2 ∈ H.take k
  · simp -implicitDefEqProofs [-List.reduceReplicate, c3_k16, hmem, wrap_i64 (n := (k : Int) + 1) (by omega) (by omega)]
    exact ⟨H.length - (k + 1), by omega, k + 1, by rw [hta]; simp [hmem], by omega, rfl, hs.grow _, oc2 _⟩
  · simp -implicitDefEqProofs [-List.reduceReplicate, c3_k16, hmem, oc2, byV_len, ha, hg32, byV_take ha, byV_take hg32, ofD_byV, eq_hash hg32 ha, wrap_i64 (n := (k : Int) + 1) (by omega) (by omega)]
    exact ⟨H.length - (k + 1), by omega, k + 1, by rw [hta]; simp [hmem, eq_comm], by omega, rfl, hs.grow _, oc2 _⟩

open Sip

/-! ### the law -/
theorem law_k28 {s : St} {x q : Nat} {K0 K1 : W64} {M : List Item} (h : LawS s x q K0 K1 M) (ho : Hon K0 K1 M) {d di ds : D} (hd : LV (.d d) (mRows M)) {S : List Act} (hS : LV (.d ds) (aRows S)) (hS32 : ∀ a ∈ S, a.2.length = 32) (hSn : S.length ≤ 100) {ids : List Int} (hi : LV (.d di) (uRows ids)) (hids : ∀ i ∈ ids, 0 ≤ i ∧ i ≤ 4294967295) (hlen : ids.length ≤ 100) {w : V} :
    wcode (Dn.Call Γ cx) cx c3_k28 [(1, .d ds), (2, .d di), (7, .ref x 0), (9, .d d), (58, w)] s lawQ := by
  have hls : ∀ σ, lenT σ .slice (.d ds) = some S.length := fun σ => by rw [hS.len, aRows_len]
  simp -implicitDefEqProofs [c3_k28, hls, c3_k27]
  refine wloopI (InvA x q K0 K1 M d di ds S.length) (m := S.length) ⟨0, rfl, by omega, rfl, h⟩ ?_
  rintro m e s ⟨i, rfl, hil, rfl, hs⟩
  by_cases hia : i < S.length
  rotate_left
  · obtain rfl : i = S.length := by omega
    obtain ⟨es, clock, hix⟩ := hs.ix
    simp -implicitDefEqProofs [c3_l26, c3_k25]
    exact law_k13 hix hd hi hids hlen
  have hii : (i : Int) < S.length := by omega
  obtain ⟨a, ha⟩ : ∃ a, S[i]? = some a := ⟨_, List.getElem?_eq_getElem hia⟩
  have ha32 := hS32 a (List.mem_of_getElem? ha)
  have har := actRow_len ha32
  have hiv := fun σ => hS.iaddr σ (k := .i64) (sz := 33) (i := i) (aRows_at ha) har
  have htk : List.take 33 (actRow a) = actRow a := List.take_of_length_le (by omega)
  have hcs : (actRow a).map V.d = B a.1 :: byV a.2 := by simp [actRow, hashD_byV]
  simp -implicitDefEqProofs [c3_l26, c3_k25, hii, c3_k24, c3_k23, hiv, har, htk]
  rw [hcs]
  exact law_k22 (hs.grow _) ho hd hia hSn ha32 (by simp)

theorem act_of {row : List D} (h : Lks (.bool :: List.replicate 32 (.int .u8)) row) : ∃ a : Act, a.2.length = 32 ∧ row = actRow a := by
  simp only [Lks, Lk.fits] at h
  obtain ⟨_, r, rfl, ⟨b, rfl⟩, h⟩ := h
  have key : ∀ (n : Nat) {row : List D}, Lks (List.replicate n (.int .u8)) row → ∃ h : List UInt8, h.length = n ∧ row = hashD h := by
    intro n
    induction n with
    | zero =>
      intro row h
      simp only [List.replicate, Lks] at h
      exact ⟨[], rfl, h⟩
    | succ n ih =>
      intro row h
      simp only [List.replicate_succ, Lks, Lk.fits] at h
      obtain ⟨d, r, rfl, ⟨m, rfl, h0, h1⟩, h2⟩ := h
      obtain ⟨h', hl, rfl⟩ := ih h2
      have e0 : (IntKind.u8.min : Int) = 0 := rfl
      have e1 : (IntKind.u8.max : Int) = 255 := rfl
      refine ⟨UInt8.ofNat m.toNat :: h', by simp [hl], ?_⟩
      simp only [hashD, List.map_cons, List.cons.injEq, and_true, UInt8.toNat_ofNat', D.int.injEq, true_and]
      omega
  obtain ⟨t, ht, rfl⟩ := key 32 h
  exact ⟨(b, t), ht, rfl⟩
theorem acts_of : ∀ {rows : List (List D)}, (∀ row ∈ rows, Lks (.bool :: List.replicate 32 (.int .u8)) row) → ∃ l : List Act, (∀ a ∈ l, a.2.length = 32) ∧ rows = aRows l
  | [], _ => ⟨[], by simp, rfl⟩
  | r :: rows, h => by
    obtain ⟨l, hl, rfl⟩ := acts_of (rows := rows) fun row hr => h row (by simp [hr])
    obtain ⟨t, ht, rfl⟩ := act_of (h r (by simp))
    exact ⟨t :: l, by intro a ha; rcases List.mem_cons.1 ha with rfl | ha; exact ht; exact hl a ha, rfl⟩
abbrev actK : List Lk := .bool :: List.replicate 32 (.int .u8)
theorem acts_fit {x : D} (hx : (Lk.list actK).fits x) : ∃ l : List Act, (∀ a ∈ l, a.2.length = 32) ∧ LV (.d x) (aRows l) := by
  simp only [Lk.fits] at hx
  rcases hx with rfl | ⟨rows, rfl, _, h⟩
  · exact ⟨[], by simp, .nil⟩
  · obtain ⟨l, hl, rfl⟩ := acts_of h
    exact ⟨l, hl, .list _⟩
theorem words_of : ∀ {rows : List (List D)}, (∀ row ∈ rows, Lks [.int .u32] row) → ∃ l : List Int, (∀ i ∈ l, 0 ≤ i ∧ i ≤ 4294967295) ∧ rows = uRows l
  | [], _ => ⟨[], by simp, rfl⟩
  | r :: rows, h => by
    obtain ⟨l, hl, rfl⟩ := words_of (rows := rows) fun row hr => h row (by simp [hr])
    have := h r (by simp)
    simp only [Lks, Lk.fits] at this
    obtain ⟨_, _, rfl, ⟨n, rfl, h0, h1⟩, rfl⟩ := this
    exact ⟨n :: l, by intro a ha; rcases List.mem_cons.1 ha with rfl | ha; exact ⟨h0, h1⟩; exact hl a ha, rfl⟩
theorem words_fit {x : D} (hx : (Lk.list [.int .u32]).fits x) : ∃ l : List Int, (∀ i ∈ l, 0 ≤ i ∧ i ≤ 4294967295) ∧ LV (.d x) (uRows l) := by
  simp only [Lk.fits] at hx
  rcases hx with rfl | ⟨rows, rfl, _, h⟩
  · exact ⟨[], by simp, .nil⟩
  · obtain ⟨l, hl, rfl⟩ := words_of h
    exact ⟨l, hl, .list _⟩
theorem un_of {n : Int} (h0 : (IntKind.u64.min : Int) ≤ n) (h1 : n ≤ IntKind.u64.max) : ∃ K : W64, n = un K := by
  have e0 : (IntKind.u64.min : Int) = 0 := rfl
  have e1 : (IntKind.u64.max : Int) = 18446744073709551615 := rfl
  refine ⟨BitVec.ofNat 64 n.toNat, ?_⟩
  simp only [un, BitVec.toNat_ofNat]
  omega
theorem salt_of {x : List D} (h : Lks [.int .u64, .int .u64] x) : ∃ K0 K1 : W64, x = [.int .u64 (un K0), .int .u64 (un K1)] := by
  simp only [Lks, Lk.fits] at h
  obtain ⟨_, _, rfl, ⟨a, rfl, a0, a1⟩, _, _, rfl, ⟨b, rfl, b0, b1⟩, rfl⟩ := h
  obtain ⟨K0, rfl⟩ := un_of a0 a1
  obtain ⟨K1, rfl⟩ := un_of b0 b1
  exact ⟨K0, K1, rfl⟩

theorem un_fits (K : W64) : Lf.fits (.int .u64) (.int .u64 (un K)) = true := by
  have e0 : (IntKind.u64.min : Int) = 0 := rfl
  have e1 : (IntKind.u64.max : Int) = 18446744073709551615 := rfl
  have := K.isLt
  have h0 : IntKind.u64.min ≤ un K := by simp only [un, e0]; omega
  have h1 : un K ≤ IntKind.u64.max := by simp only [un, e1]; omega
  simp [Lf.fits, h0, h1]
theorem eq_salt (K0 K1 : W64) (x y : Bool) : eqV .flat [.int .u64, .int .u64] (.da [.int .u64 (un K0), .int .u64 (un K1)]) (.da [.int .u64 (un K0), .int .u64 (un K1)]) x y = some true := by
  simp [eqV, fitsAll, un_fits]
theorem law3 {x0 : List D} {x1 x2 : D} (h0 : Lks [.int .u64, .int .u64] x0) (h1 : (Lk.list actK).fits x1) (h2 : (Lk.list [.int .u32]).fits x2) : Dn.Call Γ cx .val 3 [.da x0, .d x1, .d x2] St.empty fun r _ => r = B true := by
  obtain ⟨K0, K1, rfl⟩ := salt_of h0
  obtain ⟨S, hS, hs⟩ := acts_fit h1
  obtain ⟨ids, hids, hi⟩ := words_fit h2
  refine Dn.Call.body (fc := c3) rfl ?_
  have hls : ∀ σ, lenT σ .slice (.d x1) = some S.length := fun σ => by rw [hs.len, aRows_len]
  have hli : ∀ σ, lenT σ .slice (.d x2) = some ids.length := fun σ => by rw [hi.len, uRows_len]
  simp -implicitDefEqProofs [c3, c3_k38]
  refine use_fn rfl s_alive rfl ?_
  obtain ⟨n1, hn1⟩ : ∃ n1 : Int, (S.length : Int) = n1 := ⟨_, rfl⟩
  obtain ⟨n2, hn2⟩ : ∃ n2 : Int, (ids.length : Int) = n2 := ⟨_, rfl⟩
  rcases hb1 : decide ((30 : Int) < S.length) with _ | _
  rotate_left
  · simp -implicitDefEqProofs [c3_k37, c3_k36, hls, show (30 : Int) < S.length from of_decide_eq_true hb1, c3_k35]
  have hSle : (S.length : Int) ≤ 30 := Int.not_lt.1 (of_decide_eq_false hb1)
  rcases hb2 : decide ((30 : Int) < ids.length) with _ | _
  rotate_left
  · simp -implicitDefEqProofs [c3_k37, c3_k36, hls, hli, Int.not_lt.2 hSle, show (30 : Int) < ids.length from of_decide_eq_true hb2, c3_k35]
  have hile : (ids.length : Int) ≤ 30 := Int.not_lt.1 (of_decide_eq_false hb2)
  simp -implicitDefEqProofs [c3_k37, c3_k36, hls, hli, Int.not_lt.2 hSle, Int.not_lt.2 hile, c3_k35]
  simp -implicitDefEqProofs [c3_k34, mkAgg, ofD]
  refine use_raw (s_New K0 K1 (d := .d .nils) (L := []) .nil (by simp) (by simp)) fun v s hP => ?_
  rcases hP.r with ⟨-, x, q, es, clock, hv, hx1, hq1, hix, hon⟩ | ⟨hc, -⟩
  rotate_left
  · exact absurd rfl hc
  have o0 : s.objs[0]? = some (.cells [Wd K0, Wd K1]) := hP.fr.get (by simp) (by simp)
  simp only [putAll] at hix hon
  subst hv
  simp only [body_eq, globEnv, GB, List.map_nil, List.map_cons, List.append_nil, w_rangeF, i_next, i_makeMap, i_range, i_update, i_delete, i_entry, i_clone, entryV, cloneV, q_rndA, q_rndB_n, q_rndB_e, q_rndB_r, setAll, w_skip, w_ops, w_seq, w_cond, w_block, w_exit, w_ret, q_then_n, q_then_e, q_then_r, q_blk_n, q_blk_e, q_blk_r, q_ops, q_cont, q_end_n, q_end_r, q_end_e, q_loop_n, q_loop_e, q_loop_r, i_nil, i_p, i_alloc, i_box, i_store, i_copy, i_clear, i_call, i_callv, i_when, t_nil, t_p, t_call, t_alloc, t_box, t_store, kept_nil, t_copy, t_clear, q_tcont, gsel, List.cons_append, List.nil_append, evalP, evalE, evalF, evalB, isObj, thaw, Opd.ev, Env.get, Env.set, Env.pick, putE, initEnv, evalBin, intBin, evalUn, evalConv, goneAll, goneOne, retV, resAll, Res.ev, tupOf, byVals, byValsN, bv_d, bv_da, bv_fl, bv_tl, bn_d, bn_da, bn_fl, bn_tl, cx, Dn.newObj, St.place, St.push, St.spot, St.empty, cell_d, cell_da, cell_agg, cell_ref, cell_sl, cell_fl, cell_tl, cell_map, cell_fn, cell_ifc, loadAt, faddrV, partOf, extractV, mkAgg, ofD, splice, St.setObj, fillV, c3_k33]
  refine w_drw (fun f => if f = 8 then .rd else .val) [] (by decide +kernel) ?_
  simp only [room_zero]
  have hxl : x < s.objs.length := (List.getElem?_eq_some_iff.1 hix.o).1
  have hql : q < s.objs.length := (List.getElem?_eq_some_iff.1 hix.m).1
  simp -implicitDefEqProofs [eqV, V.isNil, Opd.isC]
  refine use_rdN rfl (fun s2 ha => s_ixSalt (σ := s2) ⟨(ha.1 x hxl).trans hix.o, (ha.1 q hql).trans hix.m, hix.mp, hix.pl⟩) ?_
  simp only [q_tcont, putE, Env.set]
  simp -implicitDefEqProofs [o0, mkAgg, ofD, eq_salt]
  simp -implicitDefEqProofs [c3_k32]
  simp -implicitDefEqProofs [c3_k31, o0, mkAgg, ofD]
  refine use_raw (s_play hix hon .nil hs hS (by simp; omega)) fun v s2 hp => ?_
  obtain ⟨d, hv, hd⟩ := hp.r
  subst hv
  simp -implicitDefEqProofs [c3_k30, c3_k29]
  exact law_k28 ⟨hp.ix⟩ hp.ho hd hs hS (by omega) hi hids (by omega)
end Go.Proofs.Ytmcojkkpanijjaa.T
