import Derived.Test.YtmcojkkpanijjaaE17
namespace Go.Proofs.Ytmcojkkpanijjaa.T
open Go.Dn
attribute [local simp] body_eq globEnv GB List.map_nil List.map_cons List.append_nil w_rangeF i_next i_makeMap i_range i_update i_delete i_entry i_clone entryV cloneV q_rndA q_rndB_n q_rndB_e q_rndB_r setAll w_skip w_ops w_seq w_cond w_block w_exit w_ret q_then_n q_then_e q_then_r q_blk_n q_blk_e q_blk_r q_ops q_cont q_end_n q_end_r q_end_e q_loop_n q_loop_e q_loop_r i_nil i_p i_alloc i_box i_store i_copy i_clear i_call i_callv i_when t_nil t_p t_call t_alloc t_box t_store kept_nil t_copy t_clear q_tcont gsel List.cons_append List.nil_append evalP evalE evalF evalB isObj thaw Opd.ev Env.get Env.set Env.pick putE initEnv evalBin intBin evalUn evalConv goneAll goneOne retV resAll Res.ev tupOf byVals byValsN bv_d bv_da bv_fl bv_tl bn_d bn_da bn_fl bn_tl cx Dn.newObj St.place St.push St.spot St.empty cell_d cell_da cell_agg cell_ref cell_sl cell_fl cell_tl cell_map cell_fn cell_ifc loadAt faddrV partOf extractV mkAgg ofD splice St.setObj fillV
set_option linter.unusedSimpArgs false
set_option linter.unusedVariables false
open Sip

/-! ### the index's questions -/
abbrev sId (K0 K1 : W64) (t : List UInt8) : Int := short K0 K1 t
theorem short_bound (K0 K1 : W64) (t : List UInt8) : 1 ≤ short K0 K1 t ∧ short K0 K1 t ≤ 4294967295 := by
  have hm : (hash K0 K1 t).toNat % 4294967295 < 4294967295 := Nat.mod_lt _ (by decide)
  have hsd : short K0 K1 t = (((hash K0 K1 t).toNat % 4294967295 + 1 : Nat) : Int) := rfl
  rw [hsd]
  omega
theorem byV_take {t : List UInt8} (h : t.length = 32) : (byV t).take 32 = byV t := List.take_of_length_le (by rw [byV_len]; omega)

theorem s_ixLen {σ : St} {x q : Nat} {k0 k1 : Int} {es : List Ent} {clock : Nat} {M : List Item} (h : Ix σ x q k0 k1 es clock M) : Dn.Call Γ cx .rd 30 [.ref x 0] σ fun v _ => v = I M.length := by
  refine Dn.Call.body (fc := c30) rfl ?_
  have hel : es.length = M.length := by simpa using h.mp.pm.length_eq
  simp -implicitDefEqProofs [c30, c30_k2, eqV, V.isNil, Opd.isC, c30_k1, c30_k0, nilCheckV, h.o, lenT, h.m, hel]
  exact ⟨fun i hi => rfl, fun t k ht => ht⟩

theorem s_ixSalt {σ : St} {x q : Nat} {k0 k1 : Int} {es : List Ent} {clock : Nat} {M : List Item} (h : Ix σ x q k0 k1 es clock M) : Dn.Call Γ cx .rd 8 [.ref x 0] σ fun v _ => v = .da [.int .u64 k0, .int .u64 k1] := by
  refine Dn.Call.body (fc := c8) rfl ?_
  have hxl : x < σ.objs.length := (List.getElem?_eq_some_iff.1 h.o).1
  have ox : ∀ l : List Dn.Obj, (σ.objs ++ l)[x]? = some (.cells [U k0, U k1, .map q]) := fun l => by rw [List.getElem?_append_left hxl]; exact h.o
  simp -implicitDefEqProofs [c8, c8_k2, eqV, V.isNil, Opd.isC, c8_k1, c8_k0, nilCheckV, ox, mkAgg, ofD]
  exact ⟨fun i hi => by simp [List.getElem?_append_left hi], fun t k ht => ht⟩

theorem ofD_z : ofD (List.replicate 32 (V.d (.int .u8 0))) = some (List.replicate 32 (.int .u8 0)) := rfl
theorem hz_map : (List.replicate 32 (D.int .u8 0)).map V.d = List.replicate 32 (V.d (.int .u8 0)) := by rw [List.map_replicate]
/-- The digest of an id, and whether there is one. -/
def gotV (o : Option (List UInt8)) : V := match o with
  | some t => .tup [.da (hashD t), B true]
  | none => .tup [.da (List.replicate 32 (.int .u8 0)), B false]

theorem s_ixGet {σ : St} {x q : Nat} {k0 k1 : Int} {es : List Ent} {clock : Nat} {M : List Item} (h : Ix σ x q k0 k1 es clock M) {i : Int} (h0 : 0 ≤ i) (h1 : i ≤ 4294967295) : Dn.Call Γ cx .rd 13 [.ref x 0, X i] σ fun v _ => v = gotV (gt M i) := by
  refine Dn.Call.body (fc := c13) rfl ?_
  have hxl : x < σ.objs.length := (List.getElem?_eq_some_iff.1 h.o).1
  have ox : ∀ l : List Dn.Obj, (σ.objs ++ l)[x]? = some (.cells [U k0, U k1, .map q]) := fun l => by rw [List.getElem?_append_left hxl]; exact h.o
  have hql : q < σ.objs.length := (List.getElem?_eq_some_iff.1 h.m).1
  have hz : (List.replicate 32 (D.int .u8 0)).map V.d = List.replicate 32 (V.d (.int .u8 0)) := by rw [List.map_replicate]
  have hlk := fun o => look_gt (σ := ⟨σ.objs ++ [o], σ.toks⟩) (q := q) (by simp only; rw [List.getElem?_append_left hql]; exact h.m) h.mp h.pl h0 h1 (.da (List.replicate 32 (.int .u8 0))) true
  simp -implicitDefEqProofs [-List.reduceReplicate, c13, c13_k3, eqV, V.isNil, Opd.isC, c13_k2, c13_k1, nilCheckV, ox, hlk]
  have kp : ∀ l : List Dn.Obj, Keeps σ ⟨σ.objs ++ l, σ.toks⟩ := fun l => ⟨fun i hi => by simp [List.getElem?_append_left hi], fun t k ht => ht⟩
  cases hg : gt M i with
  | none =>
    simp -implicitDefEqProofs [-List.reduceReplicate, c13_k0, gotV, ofD_z, hz_map]
    exact kp _
  | some t =>
    have h32 : t.length = 32 := h.pl.h _ (gt_some hg)
    simp -implicitDefEqProofs [-List.reduceReplicate, c13_k0, gotV, hashD_byV, byV_len, h32, byV_take h32, ofD_byV]
    exact kp _

theorem hashD_inj {a b : List UInt8} (h : hashD a = hashD b) : a = b := by
  induction a generalizing b with
  | nil => cases b with
    | nil => rfl
    | cons => simp [hashD] at h
  | cons x r ih => cases b with
    | nil => simp [hashD] at h
    | cons y s =>
      simp only [hashD, List.map_cons, List.cons.injEq, D.int.injEq, true_and] at h
      obtain ⟨h1, h2⟩ := h
      have : x = y := UInt8.toNat_inj.1 (by omega)
      rw [this, ih h2]
theorem fits_hash : ∀ l : List UInt8, fitsAll (List.replicate l.length (.int .u8)) (hashD l) = true
  | [] => rfl
  | b :: r => by
    have h1 : b.toNat < 256 := b.toNat_lt
    have h2 : Lf.fits (.int .u8) (.int .u8 (b.toNat : Int)) = true := by
      have h0 : IntKind.u8.min ≤ (b.toNat : Int) := by have : IntKind.u8.min = 0 := rfl; omega
      have h3 : (b.toNat : Int) ≤ IntKind.u8.max := by have : IntKind.u8.max = 255 := rfl; omega
      simp [Lf.fits, h0, h3]
    have ih := fits_hash r
    simp only [hashD, List.map_cons, List.length_cons, List.replicate_succ, fitsAll, h2, Bool.true_and] at ih ⊢
    exact ih
theorem eq_hash {a b : List UInt8} (ha : a.length = 32) (hb : b.length = 32) (x y : Bool) : eqV .flat (List.replicate 32 (.int .u8)) (.da (hashD a)) (.da (hashD b)) x y = some (decide (a = b)) := by
  have h1 := fits_hash a
  have h2 := fits_hash b
  rw [ha] at h1
  rw [hb] at h2
  simp only [eqV, h1, h2, Bool.and_self, if_true]
  congr 1
  by_cases h : a = b
  · subst h; simp
  · have : hashD a ≠ hashD b := fun e => h (hashD_inj e)
    simp [h, this]

theorem Kept.sets {ks : List Nat} {e : Env} {l : List Dn.Obj} {tk : List Nat} {r : Nat} {o o' : Dn.Obj} (h : ∀ t ∈ ks, r ∉ dref (e.get t)) : Kept ks e ⟨l.set r o, tk⟩ ⟨l.set r o', tk⟩ := fun t ht q hq => by
  simp only
  have : r ≠ q := fun he => h t ht (by rw [he]; exact hq)
  rw [List.getElem?_set_ne this, List.getElem?_set_ne this]
theorem t_look {K : CallP} {cx : Cx} {n0 : Nat} {kl : List Nat} {dst : Option Nat} {ka : Bool} {ks : List Lf} {zero : Opd} {ok : Bool} {x k : Opd} {af : List Nat} {al : Nat} {r : List DOp} {e : Env} {σ : St} {Q : Env → St → Prop} {v : V} (hd : cx.dry = [])
    (hl : lookupV σ ka ks (zero.ev []) ok (x.ev e) (k.ev e) = some v) (h : wtx K cx n0 kl r (putE e dst v) σ Q) : wtx K cx n0 kl (⟨none, .p dst (.lookup ka ks zero ok x k), af, al⟩ :: r) e σ Q := by
  rw [t_p]
  refine ⟨by simp [hd], ?_⟩
  have : evalP (.lookup ka ks zero ok x k) e σ = some v := hl
  simp only [gsel, this]
  exact h
/-- Does an index have a digest? -/
def hasM (K0 K1 : W64) (M : List Item) (t : List UInt8) : Bool := gt M (short K0 K1 t) == some t

theorem s_ixHas {σ : St} {x q : Nat} {K0 K1 : W64} {es : List Ent} {clock : Nat} {M : List Item} (h : Ix σ x q (un K0) (un K1) es clock M) {t : List UInt8} (ht : t.length = 32) : Dn.Call Γ cx .rd 11 [.ref x 0, .da (hashD t)] σ fun v _ => v = B (hasM K0 K1 M t) := by
  refine Dn.Call.body (fc := c11) rfl ?_
  have hxl : x < σ.objs.length := (List.getElem?_eq_some_iff.1 h.o).1
  have hql : q < σ.objs.length := (List.getElem?_eq_some_iff.1 h.m).1
  simp -implicitDefEqProofs [-List.reduceReplicate, c11, c11_k3, eqV, V.isNil, Opd.isC, c11_k2, c11_k1, hashD_byV]
  obtain ⟨σ1, hσ1⟩ : ∃ s : St, (⟨σ.objs ++ [.cells (byV t)], σ.toks⟩ : St) = s := ⟨_, rfl⟩
  rw [hσ1]
  have ox : σ1.objs[x]? = some (.cells [Wd K0, Wd K1, .map q]) := by rw [← hσ1]; simp only; rw [List.getElem?_append_left hxl]; exact h.o
  have oq : σ1.objs[q]? = some (.map es clock) := by rw [← hσ1]; simp only; rw [List.getElem?_append_left hql]; exact h.m
  have ot : σ1.objs[σ.objs.length]? = some (.cells (byV t)) := by rw [← hσ1]; simp
  have kp : Keeps σ σ1 := by rw [← hσ1]; exact ⟨fun i hi => by simp [List.getElem?_append_left hi], fun t k ht => ht⟩
  obtain ⟨b1, b2⟩ := short_bound K0 K1 t
  have hsh := s_short K0 K1 ht
  simp only [hasM]
  generalize short K0 K1 t = id at *
  have hlk := look_gt (room_at (m := 1) oq) h.mp h.pl (i := id) (by omega) b2 (.da (List.replicate 32 (.int .u8 0))) true
  refine w_drw (fun _ => .val) [3] (by decide +kernel) ?_
  simp -implicitDefEqProofs [-List.reduceReplicate, nilCheckV, room_at (m := 1) ox, room_at (m := 1) ot, byV_len, ht, byV_take ht, ofD_byV, mkAgg, ofD]
  refine use_fnN rfl (ds := [.da [.int .u64 (un K0), .int .u64 (un K1)], .da (hashD t)]) (by simp only [byVals, bv_da]) hsh rfl ?_
  obtain ⟨σ2, hσ2⟩ : ∃ s : St, σ1.room 1 = s := ⟨_, rfl⟩
  have of : σ2.objs[σ1.objs.length]? = some .free := by rw [← hσ2]; simp [St.room]
  have hl1 : σ1.objs.length = σ.objs.length + 1 := by rw [← hσ1]; simp
  have ot2 : σ2.objs[σ.objs.length]? = some (.cells (byV t)) := by rw [← hσ2]; exact room_at ot
  have kp2 : ∀ o o', Keeps σ ⟨(σ2.objs.set (σ.objs.length + 1) o).set (σ.objs.length + 1) o', σ2.toks⟩ := fun o o' => by
    rw [← hσ2]
    refine ⟨fun i hi => ?_, fun t k h => kp.2 t k h⟩
    simp only
    rw [List.getElem?_set_ne (by omega), List.getElem?_set_ne (by omega)]
    simp only [St.room]
    rw [List.getElem?_append_left (by omega)]
    exact kp.1 i hi
  rw [hσ2] at hlk ⊢
  have hn : σ.objs.length + 1 < σ2.objs.length := by rw [← hl1]; exact (List.getElem?_eq_some_iff.1 of).1
  rw [hl1] at of
  have os : ∀ o, (σ2.objs.set (σ.objs.length + 1) o)[σ.objs.length + 1]? = some o := fun o => by rw [List.getElem?_set_self hn]
  have ot3 : ∀ o, (σ2.objs.set (σ.objs.length + 1) o)[σ.objs.length]? = some (.cells (byV t)) := fun o => by rw [List.getElem?_set_ne (by omega)]; exact ot2
  clear hn
  have hzm := hz_map
  have hzl : (List.replicate 32 (V.d (.int .u8 0))).length = 32 := List.length_replicate
  have hzd : (List.replicate 32 (V.d (.int .u8 0))).drop 32 = [] := List.drop_of_length_le (by rw [hzl]; omega)
  generalize List.replicate 32 (V.d (.int .u8 0)) = zs at *
  generalize List.replicate 32 (D.int .u8 0) = zd at *
  simp only [q_tcont, putE, Env.set]
  refine t_look (v := ?v) rfl ?hl ?h
  case hl => exact hlk
  cases hg : gt M id with
  | none =>
    simp -implicitDefEqProofs [-List.reduceReplicate, hl1, of, os, hzm, hzl]
    refine ⟨Kept.sets ?_, ?_⟩
    · simp [Env.get, dref]
    simp -implicitDefEqProofs [-List.reduceReplicate, c11_k0, hg]
    have := kp2 (.cells zs) (.cells zs)
    simpa [hzd] using this
  | some u =>
    have hu : u.length = 32 := h.pl.h _ (gt_some hg)
    simp -implicitDefEqProofs [-List.reduceReplicate, hl1, of, os, hashD_byV, byV_len, hu, hzl]
    refine ⟨Kept.sets ?_, ?_⟩
    · simp [Env.get, dref]
    simp -implicitDefEqProofs [-List.reduceReplicate, c11_k0, hg, os, ot3, byV_len, hu, ht, byV_take ht, byV_take hu, ofD_byV, eq_hash hu ht]
    refine ⟨by have := kp2 (.cells zs) (.cells (byV u)); simpa [hzd] using this, ?_⟩
    rw [Bool.eq_iff_iff]
    simp
end Go.Proofs.Ytmcojkkpanijjaa.T

namespace Go.Proofs.Ytmcojkkpanijjaa.T
open Go.Dn
set_option linter.unusedSimpArgs false
set_option linter.unusedVariables false
open Sip

/-! ### what is put and removed -/
def Hon (K0 K1 : W64) (M : List Item) : Prop := ∀ p ∈ M, p.1 = short K0 K1 p.2
def ins (i : Int) (t : List UInt8) : List Item → List Item
  | [] => [(i, t)]
  | p :: r => if i < p.1 then (i, t) :: p :: r else p :: ins i t r
def putI (i : Int) (t : List UInt8) (M : List Item) : List Item × Int := match gt M i with
  | some u => (M, if u = t then 6 else 5)
  | none => (ins i t M, 0)
def del (M : List Item) (t : List UInt8) : List Item := M.filter fun p => decide (p.2 ≠ t)

theorem ins_perm (i : Int) (t : List UInt8) : ∀ M : List Item, (ins i t M).Perm ((i, t) :: M)
  | [] => List.Perm.refl _
  | p :: r => by
    simp only [ins]
    split
    · exact List.Perm.refl _
    · exact ((ins_perm i t r).cons p).trans (List.Perm.swap _ _ _)
theorem ins_up {i : Int} {t : List UInt8} : ∀ {M : List Item}, M.Pairwise (fun a b => a.1 < b.1) → (∀ p ∈ M, p.1 ≠ i) → (ins i t M).Pairwise fun a b => a.1 < b.1
  | [], _, _ => by simp [ins]
  | p :: r, h, hn => by
    simp only [List.pairwise_cons] at h
    have hp := hn p (by simp)
    simp only [ins]
    split
    · rename_i hlt
      simp only [List.pairwise_cons]
      refine ⟨fun a ha => ?_, h⟩
      rcases List.mem_cons.1 ha with rfl | ha
      · exact hlt
      · have := h.1 a ha
        omega
    · rename_i hlt
      simp only [List.pairwise_cons]
      refine ⟨fun a ha => ?_, ins_up h.2 fun q hq => hn q (by simp [hq])⟩
      rcases List.mem_cons.1 ((ins_perm i t r).mem_iff.1 ha) with rfl | ha
      · simp only
        omega
      · exact h.1 a ha
theorem Plain.ins {M : List Item} (h : Plain M) {i : Int} {t : List UInt8} (ht : t.length = 32) (h0 : 0 ≤ i) (h1 : i ≤ 4294967295) (hg : gt M i = none) (hn : M.length ≤ 89) : Plain (ins i t M) := by
  have hp := ins_perm i t M
  refine ⟨ins_up h.up (gt_none hg), fun p hm => ?_, fun p hm => ?_, by rw [hp.length_eq]; simp; omega⟩
  · rcases List.mem_cons.1 (hp.mem_iff.1 hm) with rfl | hm
    · exact ht
    · exact h.h p hm
  · rcases List.mem_cons.1 (hp.mem_iff.1 hm) with rfl | hm
    · exact ⟨h0, h1⟩
    · exact h.i p hm
theorem Hon.ins {K0 K1 : W64} {M : List Item} (h : Hon K0 K1 M) (t : List UInt8) : Hon K0 K1 (ins (short K0 K1 t) t M) := by
  intro p hm
  rcases List.mem_cons.1 ((ins_perm _ t M).mem_iff.1 hm) with rfl | hm
  · rfl
  · exact h p hm
theorem Plain.del {M : List Item} (h : Plain M) (t : List UInt8) : Plain (del M t) :=
  ⟨h.up.filter _, fun p hm => h.h p ((List.mem_filter.1 hm).1), fun p hm => h.i p ((List.mem_filter.1 hm).1), Nat.le_trans (List.length_filter_le _ _) h.n⟩
theorem Hon.del {K0 K1 : W64} {M : List Item} (h : Hon K0 K1 M) (t : List UInt8) : Hon K0 K1 (del M t) := fun p hm => h p ((List.mem_filter.1 hm).1)
theorem gt_mem {i : Int} {t : List UInt8} : ∀ {M : List Item}, M.Pairwise (fun a b => a.1 < b.1) → (i, t) ∈ M → gt M i = some t
  | [], _, h => by cases h
  | p :: r, hp, h => by
    simp only [List.pairwise_cons] at hp
    simp only [gt]
    rcases List.mem_cons.1 h with rfl | h
    · simp
    · have := hp.1 _ h
      rw [if_neg (by simp only at this; omega)]
      exact gt_mem hp.2 h
theorem hasM_iff {K0 K1 : W64} {M : List Item} (h : Plain M) {t : List UInt8} : hasM K0 K1 M t = true ↔ (short K0 K1 t, t) ∈ M := by
  simp only [hasM, beq_iff_eq]
  exact ⟨gt_some, gt_mem h.up⟩
theorem del_none {K0 K1 : W64} {M : List Item} (h : Plain M) (ho : Hon K0 K1 M) {t : List UInt8} (hh : hasM K0 K1 M t = false) : del M t = M := by
  refine List.filter_eq_self.2 fun p hp => ?_
  simp only [decide_eq_true_eq]
  intro e
  have h1 := ho p hp
  rw [e] at h1
  have : (short K0 K1 t, t) ∈ M := by rw [← h1, ← e]; exact hp
  rw [← hasM_iff h, hh] at this
  cases this
theorem del_perm {K0 K1 : W64} {M : List Item} (h : Plain M) (ho : Hon K0 K1 M) {t : List UInt8} (hh : hasM K0 K1 M t = true) : M.Perm ((short K0 K1 t, t) :: del M t) := by
  obtain ⟨a, b, rfl⟩ := List.append_of_mem ((hasM_iff h).1 hh)
  have hup := h.up
  rw [List.pairwise_append] at hup
  obtain ⟨h1, h2, h3⟩ := hup
  simp only [List.pairwise_cons] at h2
  have ha : a.filter (fun p => decide (p.2 ≠ t)) = a := List.filter_eq_self.2 fun p hp => by
    simp only [decide_eq_true_eq]
    intro e
    have := h3 p hp (short K0 K1 t, t) (by simp)
    have h4 := ho p (by simp [hp])
    rw [e] at h4
    simp only at this
    omega
  have hb : b.filter (fun p => decide (p.2 ≠ t)) = b := List.filter_eq_self.2 fun p hp => by
    simp only [decide_eq_true_eq]
    intro e
    have := h2.1 p hp
    have h4 := ho p (by simp [hp])
    rw [e] at h4
    omega
  unfold del
  rw [List.filter_append, List.filter_cons_of_neg (by simp), ha, hb]
  exact List.perm_middle
theorem del_len {K0 K1 : W64} {M : List Item} (h : Plain M) (ho : Hon K0 K1 M) (t : List UInt8) : decide ((del M t).length < M.length) = hasM K0 K1 M t := by
  cases hh : hasM K0 K1 M t with
  | false => rw [del_none h ho hh]; simp
  | true =>
    have := (del_perm h ho hh).length_eq
    simp at this
    simp
    omega

/-! ### the map -/
theorem erase_perm {α : Type} : ∀ {l : List α} {j : Nat} (h : j < l.length), l.Perm (l[j] :: l.eraseIdx j)
  | a :: r, 0, _ => List.Perm.refl _
  | a :: r, j + 1, h => by
    simp only [List.getElem_cons_succ, List.eraseIdx_cons_succ]
    exact ((erase_perm (l := r) (by simpa using h)).cons a).trans (List.Perm.swap _ _ _)
theorem Mp.put {es : List Ent} {clock : Nat} {M : List Item} (h : Mp es clock M) (i : Int) (t : List UInt8) : Mp (es ++ [(clock, X i, .da (hashD t))]) (clock + 1) (ins i t M) := by
  refine ⟨⟨?_, fun x hx => ?_⟩, ?_⟩
  · rw [List.map_append, List.nodup_append]
    refine ⟨h.bn.nd, by simp, ?_⟩
    intro a ha b hb
    simp at hb
    obtain ⟨x, hx, rfl⟩ := List.mem_map.1 ha
    have := h.bn.lt x hx
    omega
  · rcases List.mem_append.1 hx with hx | hx
    · have := h.bn.lt x hx
      omega
    · simp at hx
      subst hx
      simp
  · rw [List.map_append]
    refine (List.perm_append_comm).trans ?_
    refine (h.pm.cons (pairV (i, t))).trans ?_
    exact ((ins_perm i t M).map pairV).symm
theorem Mp.del {es : List Ent} {clock : Nat} {M : List Item} {K0 K1 : W64} (h : Mp es clock M) (hp : Plain M) (ho : Hon K0 K1 M) {t : List UInt8} (hh : hasM K0 K1 M t = true) : Mp (delM (X (short K0 K1 t)) es) clock (del M t) := by
  have hm := (hasM_iff hp).1 hh
  obtain ⟨j, b, hj⟩ := ent_of h hm
  rw [(findM_at (keys_nodup h hp) hj).2.2]
  obtain ⟨hjl, hje⟩ := List.getElem?_eq_some_iff.1 hj
  refine ⟨⟨?_, fun x hx => h.bn.lt x (List.mem_of_mem_eraseIdx hx)⟩, ?_⟩
  · exact h.bn.nd.sublist ((List.eraseIdx_sublist es j).map _)
  · have h1 : es.Perm (es[j] :: es.eraseIdx j) := erase_perm hjl
    have h2 := (h1.map (·.2)).symm.trans h.pm
    have h3 := h2.trans ((del_perm hp ho hh).map pairV)
    rw [hje] at h3
    exact List.Perm.cons_inv h3
end Go.Proofs.Ytmcojkkpanijjaa.T

namespace Go.Proofs.Ytmcojkkpanijjaa.T
open Go.Dn
attribute [local simp] body_eq globEnv GB List.map_nil List.map_cons List.append_nil w_rangeF i_next i_makeMap i_range i_update i_delete i_entry i_clone entryV cloneV q_rndA q_rndB_n q_rndB_e q_rndB_r setAll w_skip w_ops w_seq w_cond w_block w_exit w_ret q_then_n q_then_e q_then_r q_blk_n q_blk_e q_blk_r q_ops q_cont q_end_n q_end_r q_end_e q_loop_n q_loop_e q_loop_r i_nil i_p i_alloc i_box i_store i_copy i_clear i_call i_callv i_when t_nil t_p t_call t_alloc t_box t_store kept_nil t_copy t_clear q_tcont gsel List.cons_append List.nil_append evalP evalE evalF evalB isObj thaw Opd.ev Env.get Env.set Env.pick putE initEnv evalBin intBin evalUn evalConv goneAll goneOne retV resAll Res.ev tupOf byVals byValsN bv_d bv_da bv_fl bv_tl bn_d bn_da bn_fl bn_tl cx Dn.newObj St.place St.push St.spot St.empty cell_d cell_da cell_agg cell_ref cell_sl cell_fl cell_tl cell_map cell_fn cell_ifc loadAt faddrV partOf extractV mkAgg ofD splice St.setObj fillV
set_option linter.unusedSimpArgs false
set_option linter.unusedVariables false
open Sip

/-! ### Put and Remove of an index -/
def errV (c : Int) : V := if c = 0 then .d .nili else .d (.iface 60 (.int .i64 c))

theorem Ix.mono {σ s : St} {x q : Nat} {k0 k1 : Int} {es : List Ent} {clock : Nat} {M : List Item} (h : Ix σ x q k0 k1 es clock M) (hf : Fr [] σ s) : Ix s x q k0 k1 es clock M := ⟨hf.get h.o (by simp), hf.get h.m (by simp), h.mp, h.pl⟩
theorem Ix.ne {σ : St} {x q : Nat} {k0 k1 : Int} {es : List Ent} {clock : Nat} {M : List Item} (h : Ix σ x q k0 k1 es clock M) : x ≠ q := fun e => by
  have h1 := h.o
  have h2 := h.m
  rw [e, h2] at h1
  cases h1

theorem put_k0 {σ0 σ1 : St} {x q n : Nat} {k0 k1 : Int} {es : List Ent} {clock : Nat} {M : List Item} (h : Ix σ1 x q k0 k1 es clock M) (hf : Fr [] σ0 σ1) (htk : σ1.toks = σ0.toks) (hn : M.length ≤ 89) {t : List UInt8} (ht : t.length = 32) {i : Int} (b1 : 0 ≤ i) (b2 : i ≤ 4294967295) (ot : σ1.objs[n]? = some (.cells (byV t))) (hg : gt M i = none) :
    wcode (Dn.Call Γ cx) cx c28_k0 [(0, .ref x 0), (3, .ref n 0), (5, X i), (34, B false)] σ1 (endQ .raw σ0 [.tmp 4] fun v s => v = errV 0 ∧ (∃ es' clock', Ix s x q k0 k1 es' clock' (ins i t M)) ∧ Fr [q] σ0 s ∧ s.toks = σ0.toks) := by
  have hk : keyOk false [.int .u32] (X i) = true := by
    have e1 : IntKind.u32.min = 0 := rfl
    have e2 : IntKind.u32.max = 4294967295 := rfl
    simp [keyOk, fitsAll, Lf.fits, e1, e2, b1, b2]
  have hup : updateV σ1 false [.int .u32] (.map q) (X i) (.da (hashD t)) = some (.gone, σ1.setObj q (.map (es ++ [(clock, X i, .da (hashD t))]) (clock + 1))) := by
    have : findM (X i) es = none := by rw [find_gt h.mp h.pl, hg]; rfl
    simp [updateV, h.m, hk, keys_ok h.mp h.pl, this, V.cells]
  simp only [c28_k0, w_seq]
  refine w_drw (fun _ => .val) [3] (by decide +kernel) ?_
  simp only [room_zero]
  simp -implicitDefEqProofs [-List.reduceReplicate, nilCheckV, h.o, ot, byV_len, ht, byV_take ht, ofD_byV]
  refine t_app_f (v := .gone) (s := σ1.setObj q (.map (es ++ [(clock, X i, .da (hashD t))]) (clock + 1))) ?_ ?_
  · simp -implicitDefEqProofs [hup]
  have hql : q < σ1.objs.length := (List.getElem?_eq_some_iff.1 h.m).1
  have hix : Ix (σ1.setObj q (.map (es ++ [(clock, X i, .da (hashD t))]) (clock + 1))) x q k0 k1 (es ++ [(clock, X i, .da (hashD t))]) (clock + 1) (ins i t M) :=
    ⟨by simp only [St.setObj]; rw [List.getElem?_set_ne (fun e => h.ne e.symm)]; exact h.o, by simp only [St.setObj]; rw [List.getElem?_set_self hql], h.mp.put i t, h.pl.ins ht b1 b2 hg hn⟩
  have hfr : Fr [q] σ0 (σ1.setObj q (.map (es ++ [(clock, X i, .da (hashD t))]) (clock + 1))) := (hf.mono (F' := [q]) (by simp)).trans ⟨by simp [St.setObj], fun r hr _ => by simp only [St.setObj]; rw [List.getElem?_set_ne (fun e => hr (by simp [e]))]⟩
  have htk2 : (σ1.setObj q (.map (es ++ [(clock, X i, .da (hashD t))]) (clock + 1))).toks = σ0.toks := htk
  generalize σ1.setObj q (.map (es ++ [(clock, X i, .da (hashD t))]) (clock + 1)) = s2 at *
  simp -implicitDefEqProofs [errV]
  exact ⟨⟨_, _, hix⟩, hfr, htk2⟩

theorem put_rest {σ0 σ1 : St} {x q n : Nat} {k0 k1 : Int} {es : List Ent} {clock : Nat} {M : List Item} (h : Ix σ1 x q k0 k1 es clock M) (hf : Fr [] σ0 σ1) (htk : σ1.toks = σ0.toks) (hq0 : q < σ0.objs.length) (hn : M.length ≤ 89) {t : List UInt8} (ht : t.length = 32) {i : Int} (b1 : 0 ≤ i) (b2 : i ≤ 4294967295) (ot : σ1.objs[n]? = some (.cells (byV t))) :
    wcode (Dn.Call Γ cx) cx c28_k5 [(0, .ref x 0), (3, .ref n 0), (5, X i)] σ1 (endQ .raw σ0 [.tmp 4] fun v s => v = errV (putI i t M).2 ∧ (∃ es' clock', Ix s x q k0 k1 es' clock' (putI i t M).1) ∧ Fr [q] σ0 s ∧ s.toks = σ0.toks) := by
  have hzm := hz_map
  have hzl : (List.replicate 32 (V.d (.int .u8 0))).length = 32 := List.length_replicate
  have hzd : (List.replicate 32 (V.d (.int .u8 0))).drop 32 = [] := List.drop_of_length_le (by rw [hzl]; omega)
  have hlk := look_gt h.m h.mp h.pl (i := i) b1 b2 (.da (List.replicate 32 (.int .u8 0))) true
  have hnl : n < σ1.objs.length := (List.getElem?_eq_some_iff.1 ot).1
  have ot2 : ∀ o, (σ1.objs ++ [o])[n]? = some (.cells (byV t)) := fun o => by rw [List.getElem?_append_left hnl]; exact ot
  have f2 : ∀ o, Fr [] σ1 ⟨σ1.objs ++ [o], σ1.toks⟩ := fun o => ⟨by simp, fun r _ hr => by simp only; rw [List.getElem?_append_left hr]⟩
  cases hg : gt M i with
  | some u =>
    have hu : u.length = 32 := h.pl.h _ (gt_some hg)
    rw [hg] at hlk
    have hput : putI i t M = (M, if u = t then 6 else 5) := by simp [putI, hg]
    have hix := h.mono (f2 (.cells (byV u)))
    have hfr := (hf.trans (f2 (.cells (byV u)))).mono (F' := [q]) (by simp)
    clear hnl
    simp -implicitDefEqProofs [-List.reduceReplicate, c28_k5, nilCheckV, h.o, hlk, hashD_byV, byV_len, hu, hzd]
    simp -implicitDefEqProofs [-List.reduceReplicate, c28_k4, c28_k3, ot2, byV_len, hu, ht, byV_take ht, byV_take hu, ofD_byV, eq_hash hu ht]
    by_cases hut : u = t
    · simp -implicitDefEqProofs [hut, c28_k2, mkifV, hput, errV]
      rw [hut] at hix hfr
      exact ⟨⟨_, _, hix⟩, hfr, htk⟩
    · simp -implicitDefEqProofs [hut, c28_k2, c28_k1, mkifV, hput, errV]
      exact ⟨⟨_, _, hix⟩, hfr, htk⟩
  | none =>
    rw [hg] at hlk
    have hput : putI i t M = (ins i t M, 0) := by simp [putI, hg]
    simp -implicitDefEqProofs [-List.reduceReplicate, c28_k5, nilCheckV, h.o, hlk, hzm, hzl, hzd]
    simp -implicitDefEqProofs [-List.reduceReplicate, c28_k4, c28_k3, c28_k2, c28_k1]
    rw [hput]
    exact put_k0 (h.mono (f2 _)) (hf.trans (f2 _)) htk hn ht b1 b2 (ot2 _) hg
theorem s_ixPut {σ : St} {x q : Nat} {K0 K1 : W64} {es : List Ent} {clock : Nat} {M : List Item} (h : Ix σ x q (un K0) (un K1) es clock M) (hn : M.length ≤ 89) {t : List UInt8} (ht : t.length = 32) :
    Dn.Call Γ cx .raw 28 [.ref x 0, .da (hashD t)] σ fun v s => v = errV (putI (short K0 K1 t) t M).2 ∧ (∃ es' clock', Ix s x q (un K0) (un K1) es' clock' (putI (short K0 K1 t) t M).1) ∧ Fr [q] σ s ∧ s.toks = σ.toks := by
  refine Dn.Call.body (fc := c28) rfl ?_
  have hxl : x < σ.objs.length := (List.getElem?_eq_some_iff.1 h.o).1
  have hql : q < σ.objs.length := (List.getElem?_eq_some_iff.1 h.m).1
  simp -implicitDefEqProofs [-List.reduceReplicate, c28, c28_k8, eqV, V.isNil, Opd.isC, c28_k7, c28_k6, hashD_byV]
  obtain ⟨σ1, hσ1⟩ : ∃ s : St, (⟨σ.objs ++ [.cells (byV t)], σ.toks⟩ : St) = s := ⟨_, rfl⟩
  rw [hσ1]
  have f1 : Fr [] σ σ1 := ⟨by rw [← hσ1]; simp, fun r _ hr => by rw [← hσ1]; simp only; rw [List.getElem?_append_left hr]⟩
  have h1 := h.mono f1
  have ot : σ1.objs[σ.objs.length]? = some (.cells (byV t)) := by rw [← hσ1]; simp
  have hl1 : σ1.objs.length = σ.objs.length + 1 := by rw [← hσ1]; simp
  have tk1 : σ1.toks = σ.toks := by rw [← hσ1]
  clear hσ1
  obtain ⟨b1, b2⟩ := short_bound K0 K1 t
  have hsh := s_short K0 K1 ht
  generalize short K0 K1 t = id at *
  refine w_drw (fun _ => .val) [3] (by decide +kernel) ?_
  simp -implicitDefEqProofs [-List.reduceReplicate, nilCheckV, room_zero, h1.o, ot, byV_len, ht, byV_take ht, ofD_byV, mkAgg, ofD]
  refine use_fnN rfl (ds := [.da [.int .u64 (un K0), .int .u64 (un K1)], .da (hashD t)]) (by simp only [byVals, bv_da]) hsh rfl ?_
  simp only [q_tcont, putE, Env.set, t_p, gsel, evalP, Opd.ev, Env.get]
  simp only [t_nil]
  simp only [q_ops]
  simp -implicitDefEqProofs [-List.reduceReplicate]
  exact put_rest h1 f1 tk1 hql hn ht (by omega) b2 ot

theorem rem_k0 {σ0 σ1 : St} {x q n : Nat} {K0 K1 : W64} {es : List Ent} {clock : Nat} {M : List Item} (h : Ix σ1 x q (un K0) (un K1) es clock M) (ho : Hon K0 K1 M) (hf : Fr [] σ0 σ1) (htk : σ1.toks = σ0.toks) {t : List UInt8} (ht : t.length = 32) (ot : σ1.objs[n]? = some (.cells (byV t))) (hh : hasM K0 K1 M t = true) {tl : Env} (htl : tl = [(8, B false)]) :
    wcode (Dn.Call Γ cx) cx c29_k0 ((0, .ref x 0) :: (3, .ref n 0) :: tl) σ1 (endQ .raw σ0 [.tmp 4] fun v s => v = B true ∧ (∃ es' clock', Ix s x q (un K0) (un K1) es' clock' (del M t)) ∧ Fr [q] σ0 s ∧ s.toks = σ0.toks) := by
  subst htl
  obtain ⟨b1, b2⟩ := short_bound K0 K1 t
  have hk : keyOk false [.int .u32] (X (short K0 K1 t)) = true := by
    have e1 : IntKind.u32.min = 0 := rfl
    have e2 : IntKind.u32.max = 4294967295 := rfl
    simp [keyOk, fitsAll, Lf.fits, e1, e2, show 0 ≤ short K0 K1 t by omega, b2]
  have hdl : deleteV σ1 false [.int .u32] (.map q) (X (short K0 K1 t)) = some (.tup [], σ1.setObj q (.map (delM (X (short K0 K1 t)) es) clock)) := by
    simp [deleteV, h.m, hk, keys_ok h.mp h.pl]
  have hmp := h.mp.del h.pl ho hh
  have hsh := s_short K0 K1 ht
  generalize short K0 K1 t = i at *
  simp only [c29_k0, w_seq]
  refine w_drw (fun _ => .val) [3] (by decide +kernel) ?_
  simp only [room_zero]
  simp -implicitDefEqProofs [-List.reduceReplicate, nilCheckV, h.o, ot, byV_len, ht, byV_take ht, ofD_byV, mkAgg, ofD]
  refine use_fnN rfl (ds := [.da [.int .u64 (un K0), .int .u64 (un K1)], .da (hashD t)]) (by simp only [byVals, bv_da]) hsh rfl ?_
  simp only [q_tcont, putE, Env.set]
  refine t_app_f (v := .tup []) (s := σ1.setObj q (.map (delM (X i) es) clock)) ?_ ?_
  · simp -implicitDefEqProofs [hdl]
  have hql : q < σ1.objs.length := (List.getElem?_eq_some_iff.1 h.m).1
  have hix : Ix (σ1.setObj q (.map (delM (X i) es) clock)) x q (un K0) (un K1) (delM (X i) es) clock (del M t) :=
    ⟨by simp only [St.setObj]; rw [List.getElem?_set_ne (fun e => h.ne e.symm)]; exact h.o, by simp only [St.setObj]; rw [List.getElem?_set_self hql], hmp, h.pl.del t⟩
  have hfr : Fr [q] σ0 (σ1.setObj q (.map (delM (X i) es) clock)) := (hf.mono (F' := [q]) (by simp)).trans ⟨by simp [St.setObj], fun r hr _ => by simp only [St.setObj]; rw [List.getElem?_set_ne (fun e => hr (by simp [e]))]⟩
  have htk2 : (σ1.setObj q (.map (delM (X i) es) clock)).toks = σ0.toks := htk
  generalize σ1.setObj q (.map (delM (X i) es) clock) = s2 at *
  simp -implicitDefEqProofs
  exact ⟨⟨_, _, hix⟩, hfr, htk2⟩

theorem s_ixRemove {σ : St} {x q : Nat} {K0 K1 : W64} {es : List Ent} {clock : Nat} {M : List Item} (h : Ix σ x q (un K0) (un K1) es clock M) (ho : Hon K0 K1 M) {t : List UInt8} (ht : t.length = 32) :
    Dn.Call Γ cx .raw 29 [.ref x 0, .da (hashD t)] σ fun v s => v = B (hasM K0 K1 M t) ∧ (∃ es' clock', Ix s x q (un K0) (un K1) es' clock' (del M t)) ∧ Fr [q] σ s ∧ s.toks = σ.toks := by
  refine Dn.Call.body (fc := c29) rfl ?_
  simp -implicitDefEqProofs [-List.reduceReplicate, c29, c29_k2, hashD_byV]
  obtain ⟨σ1, hσ1⟩ : ∃ s : St, (⟨σ.objs ++ [.cells (byV t)], σ.toks⟩ : St) = s := ⟨_, rfl⟩
  have ot : σ1.objs[σ.objs.length]? = some (.cells (byV t)) := by rw [← hσ1]; simp
  simp -implicitDefEqProofs [byV_len, ht, byV_take ht, ofD_byV]
  rw [hσ1]
  have f1 : Fr [] σ σ1 := ⟨by rw [← hσ1]; simp, fun r _ hr => by rw [← hσ1]; simp only; rw [List.getElem?_append_left hr]⟩
  have h1 := h.mono f1
  have tk1 : σ1.toks = σ.toks := by rw [← hσ1]
  clear hσ1
  refine use_rd (s_ixHas h1 ht) ?_
  cases hh : hasM K0 K1 M t with
  | false =>
    rw [del_none h.pl ho hh]
    simp -implicitDefEqProofs [c29_k1]
    exact ⟨⟨_, _, h1⟩, f1.mono (by simp), tk1⟩
  | true =>
    simp -implicitDefEqProofs [c29_k1]
    exact rem_k0 h1 ho f1 tk1 ht ot hh rfl

open Sip

/-! ### two lists that are put together -/
structure Two (σ0 s : St) (sa sb : Nat) (a b : V) (ra rb : List (List D)) : Prop where
  pa : App s sa a ra
  pb : App s sb b rb
  oa : ∀ t, Dn.own a = some t → σ0.toks.length ≤ t
  ob : ∀ t, Dn.own b = some t → σ0.toks.length ≤ t
  ne : ∀ t, Dn.own a = some t → Dn.own b ≠ some t
  kp : ∀ (t k : Nat), σ0.toks[t]? = some k → s.toks[t]? = some k
  fr : Fr [] σ0 s
theorem Two.nil (σ : St) (sa sb : Nat) : Two σ σ sa sb (.d .nils) (.d .nils) [] [] := ⟨.nil, .nil, (fun t h => nomatch h), (fun t h => nomatch h), (fun t h => nomatch h), fun t k h => h, Fr.refl _ _⟩
theorem Two.swap {σ0 s : St} {sa sb : Nat} {a b : V} {ra rb : List (List D)} (h : Two σ0 s sa sb a b ra rb) : Two σ0 s sb sa b a rb ra := ⟨h.pb, h.pa, h.ob, h.oa, fun t h1 h2 => h.ne t h2 h1, h.kp, h.fr⟩
theorem own_lt {σ : St} {sz : Nat} {v : V} {rows : List (List D)} (h : App σ sz v rows) {t : Nat} (ho : Dn.own v = some t) : t < σ.toks.length := by
  cases h with
  | nil => cases ho
  | fl => cases ho
  | tl rows t' st h => cases ho; exact (List.getElem?_eq_some_iff.1 h).1
theorem Two.push {σ0 s : St} {sa sb : Nat} {a b : V} {ra rb : List (List D)} (h : Two σ0 s sa sb a b ra rb) {bytes : Nat} (hpos : 0 < sa) (hfr : ∀ r ∈ ra, r.length = sa) {y : List D} (hy : y.length = sa) (hb : (ra.length + 1) * bytes ≤ 140737488355328) (h63 : ra.length + 1 ≤ 9223372036854775807) :
    ∃ a' s', (∀ tg, appendV s tg sa bytes a [y] = some (a', s')) ∧ Two σ0 s' sa sb a' b (ra ++ [y]) rb ∧ s'.objs = s.objs := by
  obtain ⟨a', s', hap, happ, ho, ht, _⟩ := h.pa.push (bytes := bytes) hpos hfr (ys := [y]) (by simp [hy]) (by simpa using hb) (by simpa using h63)
  refine ⟨a', s', hap, ⟨happ, h.pb.other ht (fun t hb ha => h.ne t ha hb), fun t hn => ?_, h.ob, fun t hn hb => ?_, fun t k hk => ?_, ⟨by rw [ho]; exact h.fr.len, fun r hr hl => by rw [ho]; exact h.fr.at_ r hr hl⟩⟩, ho⟩
  · rcases ht.own with e | ⟨t', e, hl⟩
    · rw [e] at hn; exact h.oa t hn
    · rw [e] at hn
      cases hn
      have : σ0.toks.length ≤ s.toks.length := by
        refine Nat.le_of_not_lt fun hlt => ?_
        have h1 : σ0.toks[s.toks.length]? = some σ0.toks[s.toks.length] := by simp [hlt]
        have h2 := (List.getElem?_eq_some_iff.1 (h.kp _ _ h1)).1
        omega
      omega
  · rcases ht.own with e | ⟨t', e, hl⟩
    · rw [e] at hn; exact h.ne t hn hb
    · rw [e] at hn
      cases hn
      have := own_lt h.pb hb
      omega
  · refine ht.other t k (h.kp t k hk) fun e => ?_
    have := h.oa t e
    have := (List.getElem?_eq_some_iff.1 hk).1
    omega
theorem Two.grow {σ0 s s' : St} {sa sb : Nat} {a b : V} {ra rb : List (List D)} (h : Two σ0 s sa sb a b ra rb) (hf : Fr [] s s') (ht : s'.toks = s.toks) : Two σ0 s' sa sb a b ra rb :=
  ⟨h.pa.toks ht, h.pb.toks ht, h.oa, h.ob, h.ne, fun t k hk => by rw [ht]; exact h.kp t k hk, h.fr.trans hf⟩
theorem Two.keeps {σ0 s : St} {sa sb : Nat} {a b : V} {ra rb : List (List D)} (h : Two σ0 s sa sb a b ra rb) : Keeps σ0 s := ⟨fun i hi => h.fr.at_ i (by simp) hi, h.kp⟩

/-! ### slices.Contains -/
theorem uRows_at {l : List Int} {i : Nat} {h : Int} (hi : l[i]? = some h) : (uRows l)[i]? = some [.int .u32 h] := by simp [uRows, hi]
theorem hRows_at {l : List (List UInt8)} {i : Nat} {h : List UInt8} (hi : l[i]? = some h) : (hRows l)[i]? = some (hashD h) := by simp [hRows, hi]
def InvIdx (x : D) (L : List Int) (h : Int) (m : Nat) (e : Env) (σ : St) : Prop := ∃ i : Nat, e = [(0, .d x), (1, X h), (7, I L.length), (8, I i)] ∧ i ≤ L.length ∧ m = L.length - i ∧ σ = St.empty ∧ h ∉ L.take i
theorem s_Index {x : D} {L : List Int} (hx : LV (.d x) (uRows L)) {h : Int} (hlen : L.length ≤ 1000000) : Dn.Call Γ cx .val 45 [.d x, X h] St.empty fun v _ => ∃ n : Int, v = I n ∧ (0 ≤ n ↔ h ∈ L) := by
  refine Dn.Call.body (fc := c45) rfl ?_
  have hlx : ∀ σ, lenT σ .slice (.d x) = some L.length := fun σ => by rw [hx.len, uRows_len]
  simp -implicitDefEqProofs [c45, c45_k7, c45_k6, hlx]
  refine wloopI (InvIdx x L h) (m := L.length) ⟨0, rfl, by omega, rfl, rfl, by simp⟩ ?_
  rintro m e σ ⟨i, rfl, hi, rfl, rfl, hni⟩
  by_cases hil : i < L.length
  · obtain ⟨g, hg⟩ : ∃ g, L[i]? = some g := ⟨L[i], by simp [hil]⟩
    have hia := fun σ => hx.iaddr σ (k := .i64) (sz := 1) (uRows_at hg) rfl
    have hii : (i : Int) < L.length := by omega
    have hgm := List.mem_of_getElem? hg
    have htk : L.take (i + 1) = L.take i ++ [g] := by rw [List.take_add_one, hg]; rfl
    clear hil
    simp -implicitDefEqProofs [c45_l5, c45_k4, hii, c45_k3, c45_k2, c45_k1, hia, c45_k0]
    by_cases hhg : h = g
    · subst hhg
      simp -implicitDefEqProofs
      exact hgm
    · simp -implicitDefEqProofs [hhg, wrap_i64 (n := (i : Int) + 1) (by omega) (by omega)]
      refine ⟨L.length - (i + 1), by omega, i + 1, rfl, by omega, rfl, rfl, ?_⟩
      rw [htk]
      simp [hni, hhg]
  · obtain rfl : i = L.length := by omega
    rw [List.take_length] at hni
    simp -implicitDefEqProofs [c45_l5, c45_k4]
    exact hni

theorem s_Contains {x : D} {L : List Int} (hx : LV (.d x) (uRows L)) {h : Int} (hlen : L.length ≤ 1000000) : Dn.Call Γ cx .val 36 [.d x, X h] St.empty fun v _ => v = B (decide (h ∈ L)) := by
  refine Dn.Call.body (fc := c36) rfl ?_
  simp -implicitDefEqProofs [c36, c36_k0]
  refine use_val rfl (s_Index hx hlen) fun v s ⟨n, hv, hn⟩ => ?_
  subst hv
  refine ⟨rfl, fun _ => rfl, ?_⟩
  simp -implicitDefEqProofs
  by_cases hm : h ∈ L
  · simp [hm, hn.2 hm]
  · have : ¬ (0 ≤ n) := fun e => hm (hn.1 e)
    simp [hm, this]

/-! ### all digests of an index -/
def InvHash (σ : St) (x : Nat) (d : D) (M : List Item) (m : Nat) (e : Env) (s : St) : Prop := ∃ (i : Nat) (v : V), e = [(0, .ref x 0), (3, v), (7, .d d), (8, I M.length), (9, I i)] ∧ i ≤ M.length ∧ m = M.length - i ∧ Two σ s 32 1 v (.d .nils) (hRows ((M.take i).map (·.2))) []

theorem s_ixHashes {σ : St} {x q : Nat} {k0 k1 : Int} {es : List Ent} {clock : Nat} {M : List Item} (h : Ix σ x q k0 k1 es clock M) :
    Dn.Call Γ cx .rd 32 [.ref x 0] σ fun v _ => ∃ d, v = .d d ∧ LV (.d d) (hRows (M.map (·.2))) := by
  refine Dn.Call.body (fc := c32) rfl ?_
  simp -implicitDefEqProofs [c32, c32_k8, c32_k7]
  refine use_rd' (s_IDs h) fun v s ⟨d, hv, hd⟩ => ?_
  subst hv
  have hld : ∀ σ, lenT σ .slice (.d d) = some M.length := fun σ => by rw [hd.len, uRows_len, List.length_map]
  have hn := h.pl.n
  simp -implicitDefEqProofs [hld, c32_k6]
  refine wloopI (InvHash σ x d M) (m := M.length) ⟨0, _, rfl, by omega, rfl, Two.nil σ 32 1⟩ ?_
  rintro m e s ⟨i, v, rfl, hi, rfl, hT⟩
  have hs := h.mono hT.fr
  by_cases hil : i < M.length
  · have hii : (i : Int) < M.length := by omega
    obtain ⟨p, hp⟩ : ∃ p, M[i]? = some p := ⟨_, List.getElem?_eq_getElem hil⟩
    have hpm := List.mem_of_getElem? hp
    have hp32 := h.pl.h p hpm
    have hia := fun σ => hd.iaddr σ (k := .i64) (sz := 1) (i := i) (uRows_at (h := p.1) (by simp [hp])) rfl
    have hgt : gt M p.1 = some p.2 := gt_mem h.pl.up hpm
    have hlk := look_gt hs.m h.mp h.pl (h.pl.i p hpm).1 (h.pl.i p hpm).2 (.da (List.replicate 32 (.int .u8 0))) false
    rw [hgt] at hlk
    simp only [Bool.false_eq_true, if_false] at hlk
    have hta : M.take (i + 1) = M.take i ++ [p] := by rw [List.take_add_one, hp]; rfl
    have hhl := hashD_len p.2
    rw [hp32] at hhl
    have htk : List.take 32 (hashD p.2) = hashD p.2 := List.take_of_length_le (by omega)
    obtain ⟨v2, s2, hap, hT2, ho⟩ := hT.push (bytes := 32) (by decide) (hRows_fit (fun y hy => by obtain ⟨q, hq, rfl⟩ := List.mem_map.1 hy; exact h.pl.h _ (List.mem_of_mem_take hq))) (y := hashD p.2) hhl (by simp [hRows_len]; omega) (by simp [hRows_len]; omega)
    rw [show hRows ((M.take i).map (·.2)) ++ [hashD p.2] = hRows ((M.take (i + 1)).map (·.2)) by rw [hta]; simp [hRows]] at hT2
    clear hil
    simp -implicitDefEqProofs [-List.reduceReplicate, c32_l5, c32_k4, hii, c32_k3, c32_k2, hia]
    simp -implicitDefEqProofs [-List.reduceReplicate, c32_k1, nilCheckV, hs.o, hlk, repl, rowsOf, frz_hash, frzV, hhl, htk]
    refine i_app_f (v := v2) (s := s2) ?_ ?_
    · simp -implicitDefEqProofs [V.rows]
      exact hap none
    simp -implicitDefEqProofs [wrap_i64 (n := (i : Int) + 1) (by omega) (by omega)]
    exact ⟨M.length - (i + 1), by omega, i + 1, v2, rfl, by omega, rfl, hT2⟩
  · obtain rfl : i = M.length := by omega
    rw [List.take_of_length_le (by omega)] at hT
    have hdv := hT.pa.lv.dv s
    obtain ⟨d2, hd2⟩ := hdv.2.2.1
    simp -implicitDefEqProofs [c32_l5, c32_k4, c32_k0, hT.pa.lv.byValN, hdv.1]
    exact ⟨hT.keeps, d2, hd2, hd2 ▸ hdv.2.1⟩

open Sip

/-! ### how ids are parted -/
def pt (M : List Item) (ids : List Int) : Nat → List (List UInt8) × List Int
  | 0 => ([], [])
  | k + 1 => match ids[k]? with
    | none => pt M ids k
    | some i => if i ∈ ids.take k then pt M ids k else match gt M i with
      | some h => ((pt M ids k).1 ++ [h], (pt M ids k).2)
      | none => ((pt M ids k).1, (pt M ids k).2 ++ [i])
theorem pt_len (M : List Item) (ids : List Int) : ∀ k, (pt M ids k).1.length ≤ k ∧ (pt M ids k).2.length ≤ k
  | 0 => by simp [pt]
  | k + 1 => by
    have := pt_len M ids k
    simp only [pt]
    split
    · omega
    · split
      · omega
      · split <;> simp <;> omega
theorem pt_32 {M : List Item} (hM : ∀ p ∈ M, p.2.length = 32) (ids : List Int) : ∀ k, ∀ h ∈ (pt M ids k).1, h.length = 32
  | 0 => by simp [pt]
  | k + 1 => by
    have := pt_32 hM ids k
    simp only [pt]
    split
    · exact this
    · split
      · exact this
      · split
        · rename_i hg
          intro h hh
          rcases List.mem_append.1 hh with hh | hh
          · exact this h hh
          · simp at hh
            subst hh
            exact hM _ (gt_some hg)
        · exact this

theorem frz_byV (t : List UInt8) : ofD ((byV t).map frzV) = some (hashD t) := by
  induction t with
  | nil => rfl
  | cons a r ih => simp only [byV, hashD, List.map_cons, frzV, ofD] at ih ⊢; rw [ih]
def InvPart (σ : St) (xv : V) (d : V) (M : List Item) (ids : List Int) (m : Nat) (e : Env) (s : St) : Prop := ∃ (i : Nat) (a b : V), e = [(0, xv), (1, d), (6, a), (7, b), (12, d), (13, I ids.length), (14, I i)] ∧ i ≤ ids.length ∧ m = ids.length - i ∧ Two σ s 32 1 a b (hRows (pt M ids i).1) (uRows (pt M ids i).2)

abbrev partQ (σ : St) (xv : V) (d : V) (M : List Item) (ids : List Int) (i : Nat) : PostC := blkQ 1
         (thenQ (Dn.Call Γ cx) cx
           (C.ops [0, 1, 6, 7, 12, 13, 14]
             [Ins.p (some 41) (POp.bin BinOp.add Ty.int [] (Opd.t 14) (Opd.c (D.int IntKind.i64 1))),
               Ins.p (some 14) (POp.move (Opd.t 41))])
           (loopQ (InvPart σ xv d M ids) (ids.length - i) [0, 1, 6, 7, 12, 13, 14]
             (blkQ 0
               (thenQ (Dn.Call Γ cx) cx c15_k0
                 (endQ Mode.rd σ [Res.tmp 4, Res.tmp 5] fun v x =>
                   ∃ a b, v = V.tup [V.d a, V.d b] ∧ LV (V.d a) (hRows (pt M ids ids.length).fst) ∧ LV (V.d b) (uRows (pt M ids ids.length).snd))))))
theorem part_k5 {σ s : St} {xv : V} {i : Nat} {d : V} {dw : D} {M : List Item} {ids : List Int} {a b w : V} {n : Int} (hi : i < ids.length) (hlen : ids.length ≤ 1000) (hM : ∀ p ∈ M, p.2.length = 32)
    (hT : Two σ s 32 1 a b (hRows (pt M ids i).1) (uRows (pt M ids i).2)) (hn : ids[i]? = some n) (hsx : ∀ s, sliceX s 1 d none (some (I i)) none = some w) (hbw : ∀ s, V.byVal s w = some (.d dw))
    (hcon : Dn.Call Γ cx .val 36 [.d dw, X n] St.empty fun v _ => v = B (decide (n ∈ ids.take i))) {cs : List V} {fl : Bool} (hcs : ∀ u, gt M n = some u → cs = byV u) (hfl : fl = (gt M n).isSome) :
    wcode (Dn.Call Γ cx) cx c15_k5 [(0, xv), (1, d), (6, a), (7, b), (8, I i), (9, X n), (10, .ref s.objs.length 0), (11, B fl), (12, d), (13, I ids.length), (14, I i)] ⟨s.objs ++ [.cells cs], s.toks⟩ (partQ σ xv d M ids i) := by
  have hpt : pt M ids (i + 1) = if n ∈ ids.take i then pt M ids i else match gt M n with
      | some h => ((pt M ids i).1 ++ [h], (pt M ids i).2)
      | none => ((pt M ids i).1, (pt M ids i).2 ++ [n]) := by rw [pt, hn] <;> rfl
  have hl1 := (pt_len M ids i).1
  have hl2 := (pt_len M ids i).2
  have hT2 := hT.grow (s' := ⟨s.objs ++ [.cells cs], s.toks⟩) ⟨by simp, fun r _ hr => by simp only; rw [List.getElem?_append_left hr]⟩ rfl
  have oc : (s.objs ++ [.cells cs])[s.objs.length]? = some (.cells cs) := by simp
  simp -implicitDefEqProofs [-List.reduceReplicate, c15_k5, c15_k4, hsx]
  refine use_fn (ds := [.d dw, X n]) (by simp only [byVals, bv_d, hbw]) hcon (Bool.or_true _) ?_
  by_cases hmem : n ∈ ids.take i
  · rw [if_pos hmem] at hpt
    simp -implicitDefEqProofs [hmem, c15_k3, wrap_i64 (n := (i : Int) + 1) (by omega) (by omega)]
    exact ⟨ids.length - (i + 1), by omega, i + 1, a, b, rfl, by omega, rfl, by rw [hpt]; exact hT2⟩
  · rw [if_neg hmem] at hpt
    cases hg : gt M n with
    | some u =>
      have hu : u.length = 32 := hM _ (gt_some hg)
      have hcu := hcs u hg
      rw [hg] at hpt hfl
      subst hcu hfl
      simp only [Option.isSome]
      have hhl := hashD_len u
      rw [hu] at hhl
      have htk : List.take 32 (hashD u) = hashD u := List.take_of_length_le (by omega)
      obtain ⟨v2, s2, hap, hT3, ho⟩ := hT2.push (bytes := 32) (by decide) (hRows_fit (pt_32 hM ids i)) (y := hashD u) hhl (by simp [hRows_len]; omega) (by simp [hRows_len]; omega)
      rw [show hRows (pt M ids i).1 ++ [hashD u] = hRows (pt M ids (i + 1)).1 by rw [hpt]; simp [hRows], show (pt M ids i).2 = (pt M ids (i + 1)).2 by rw [hpt]] at hT3
      generalize s.objs ++ [.cells (byV u)] = l at *
      simp -implicitDefEqProofs [-List.reduceReplicate, hmem, c15_k3, c15_k2]
      simp -implicitDefEqProofs [-List.reduceReplicate, c15_k1, oc, byV_len, hu, byV_take hu, ofD_byV, hashD_byV, repl, rowsOf, frz_hash, frz_byV, frzV, hhl, htk]
      refine i_app_f (v := v2) (s := s2) ?_ ?_
      · simp -implicitDefEqProofs [V.rows]
        exact hap none
      simp -implicitDefEqProofs [wrap_i64 (n := (i : Int) + 1) (by omega) (by omega)]
      exact ⟨ids.length - (i + 1), by omega, i + 1, v2, b, rfl, by omega, rfl, hT3⟩
    | none =>
      rw [hg] at hpt hfl
      subst hfl
      simp only [Option.isSome]
      obtain ⟨v2, s2, hap, hT3, ho⟩ := hT2.swap.push (bytes := 4) (by decide) (uRows_fit _) (y := [.int .u32 n]) rfl (by simp [uRows_len]; omega) (by simp [uRows_len]; omega)
      rw [show uRows (pt M ids i).2 ++ [[.int .u32 n]] = uRows (pt M ids (i + 1)).2 by rw [hpt]; simp [uRows], show (pt M ids i).1 = (pt M ids (i + 1)).1 by rw [hpt]] at hT3
      simp -implicitDefEqProofs [-List.reduceReplicate, hmem, c15_k3, c15_k2]
      simp -implicitDefEqProofs [-List.reduceReplicate, c15_k1, repl, rowsOf, frzV]
      refine i_app_f (v := v2) (s := s2) ?_ ?_
      · simp -implicitDefEqProofs [V.rows]
        exact hap none
      simp -implicitDefEqProofs [wrap_i64 (n := (i : Int) + 1) (by omega) (by omega)]
      exact ⟨ids.length - (i + 1), by omega, i + 1, a, v2, rfl, by omega, rfl, hT3.swap⟩

theorem s_PartG {σ : St} {xv : V} {M : List Item} (hM : ∀ p ∈ M, p.2.length = 32) (hget : ∀ (s : St) (i : Int), Fr [] σ s → 0 ≤ i → i ≤ 4294967295 → Dn.Call Γ cx .rd 13 [xv, X i] s fun v _ => v = gotV (gt M i)) {d : V} {ids : List Int} (hd : LV d (uRows ids)) (hts : ∀ r t st s, d = .tl r t st s → s = 1) (hids : ∀ i ∈ ids, 0 ≤ i ∧ i ≤ 4294967295) (hlen : ids.length ≤ 1000) :
    Dn.Call Γ cx .rd 15 [xv, d] σ fun v _ => ∃ a b, v = .tup [.d a, .d b] ∧ LV (.d a) (hRows (pt M ids ids.length).1) ∧ LV (.d b) (uRows (pt M ids ids.length).2) := by
  refine Dn.Call.body (fc := c15) rfl ?_
  have hld : ∀ σ, lenT σ .slice d = some ids.length := fun σ => by rw [hd.len, uRows_len]
  simp -implicitDefEqProofs [c15, c15_k14, c15_k13, c15_k12, hld, c15_k11]
  refine wloopI (InvPart σ xv d M ids) (m := ids.length) ⟨0, _, _, rfl, by omega, rfl, Two.nil σ 32 1⟩ ?_
  rintro m e s ⟨i, a, b, rfl, hi, rfl, hT⟩
  by_cases hil : i < ids.length
  rotate_left
  · obtain rfl : i = ids.length := by omega
    have hda := hT.pa.lv.dv s
    have hdb := hT.pb.lv.dv s
    obtain ⟨d1, hd1⟩ := hda.2.2.1
    obtain ⟨d2, hd2⟩ := hdb.2.2.1
    simp -implicitDefEqProofs [c15_l10, c15_k9, c15_k0, hT.pa.lv.byValN, hT.pb.lv.byValN, hda.1, hdb.1]
    exact ⟨hT.keeps, d1, d2, ⟨hd1, hd2⟩, hd1 ▸ hda.2.1, hd2 ▸ hdb.2.1⟩
  have hii : (i : Int) < ids.length := by omega
  obtain ⟨n, hn⟩ : ∃ n, ids[i]? = some n := ⟨_, List.getElem?_eq_getElem hil⟩
  have hnb := hids n (List.mem_of_getElem? hn)
  have hia := fun σ => hd.iaddr σ (k := .i64) (sz := 1) (i := i) (uRows_at hn) rfl
  simp -implicitDefEqProofs [-List.reduceReplicate, c15_l10, c15_k9, hii, c15_k8, c15_k7, hia, c15_k6]
  refine use_rd (hget s n hT.fr hnb.1 hnb.2) ?_
  have hzm := hz_map
  have hzl : (List.replicate 32 (V.d (.int .u8 0))).length = 32 := List.length_replicate
  have hzd : (List.replicate 32 (V.d (.int .u8 0))).drop 32 = [] := List.drop_of_length_le (by rw [hzl]; omega)
  obtain ⟨w, hw, hwl, -⟩ := hd.slice s (uRows_fit ids) hts (lo := 0) (hi := i) (by omega) (by rw [uRows_len]; omega)
  have hlv := hd.lenV s
  rw [uRows_len] at hlv
  have hsx : ∀ s, sliceX s 1 d none (some (I i)) none = some w := fun s => by
    have := hd.lenV s
    rw [uRows_len] at this
    simp [sliceX, this, boundV, asIdx, hw, hi]
  have hwl2 : LV w (uRows (ids.take i)) := by simpa [uRows] using hwl
  have hdw := hwl2.dv s
  obtain ⟨dw, hdw2⟩ := hdw.2.2.1
  have hcon := s_Contains (x := dw) (L := ids.take i) (hdw2 ▸ hdw.2.1) (h := n) (by simp; omega)
  have hbvw : ∀ s, V.byVal s w = some (.d dw) := fun s => by rw [← hdw2]; exact (hwl2.dv s).1
  cases hg : gt M n with
  | some u =>
    have hu : u.length = 32 := hM _ (gt_some hg)
    simp -implicitDefEqProofs [-List.reduceReplicate, gotV, hashD_byV, byV_len, hu, hzd]
    exact part_k5 hil hlen hM hT hn hsx hbvw hcon (cs := byV u) (fun v hv => by rw [hg] at hv; cases hv; rfl) (by rw [hg]; rfl)
  | none =>
    simp -implicitDefEqProofs [-List.reduceReplicate, gotV, hzm, hzl, hzd]
    exact part_k5 hil hlen hM hT hn hsx hbvw hcon (fun v hv => by rw [hg] at hv; cases hv) (by rw [hg]; rfl)
theorem s_ixPart {σ : St} {x q : Nat} {k0 k1 : Int} {es : List Ent} {clock : Nat} {M : List Item} (h : Ix σ x q k0 k1 es clock M) {d : V} {ids : List Int} (hd : LV d (uRows ids)) (hts : ∀ r t st s, d = .tl r t st s → s = 1) (hids : ∀ i ∈ ids, 0 ≤ i ∧ i ≤ 4294967295) (hlen : ids.length ≤ 1000) :
    Dn.Call Γ cx .rd 15 [.ref x 0, d] σ fun v _ => ∃ a b, v = .tup [.d a, .d b] ∧ LV (.d a) (hRows (pt M ids ids.length).1) ∧ LV (.d b) (uRows (pt M ids ids.length).2) :=
  s_PartG h.pl.h (fun s i hf h0 h1 => s_ixGet (h.mono hf) h0 h1) hd hts hids hlen

open Sip

/-! ### a new index -/
def putAll (K0 K1 : W64) : List (List UInt8) → List Item → List Item × Int
  | [], M => (M, 0)
  | t :: r, M => if (putI (short K0 K1 t) t M).2 = 0 then putAll K0 K1 r (putI (short K0 K1 t) t M).1 else putI (short K0 K1 t) t M
theorem putI_plain {K0 K1 : W64} {M : List Item} (h : Plain M) (ho : Hon K0 K1 M) {t : List UInt8} (ht : t.length = 32) (hn : M.length ≤ 89) : Plain (putI (short K0 K1 t) t M).1 ∧ Hon K0 K1 (putI (short K0 K1 t) t M).1 ∧ (putI (short K0 K1 t) t M).1.length ≤ M.length + 1 := by
  obtain ⟨b1, b2⟩ := short_bound K0 K1 t
  simp only [putI]
  split
  · exact ⟨h, ho, by simp⟩
  · rename_i hg
    refine ⟨h.ins ht (by omega) b2 hg hn, ho.ins t, ?_⟩
    rw [(ins_perm _ t M).length_eq]
    simp

def InvNew (σ : St) (K0 K1 : W64) (x q : Nat) (d : V) (L : List (List UInt8)) (m : Nat) (e : Env) (s : St) : Prop := ∃ (i : Nat) (es : List Ent) (clock : Nat) (M : List Item), e = [(6, .ref x 0), (15, d), (16, I L.length), (17, I i)] ∧ i ≤ L.length ∧ m = L.length - i ∧ Ix s x q (un K0) (un K1) es clock M ∧ Hon K0 K1 M ∧ M.length ≤ i ∧ Fr [] σ s ∧ s.toks = σ.toks ∧ putAll K0 K1 L [] = putAll K0 K1 (L.drop i) M

structure NewP (σ : St) (K0 K1 : W64) (L : List (List UInt8)) (v : V) (s : St) : Prop where
  fr : Fr [] σ s
  tk : s.toks = σ.toks
  r : ((putAll K0 K1 L []).2 = 0 ∧ ∃ x q es clock, v = .tup [.ref x 0, .d .nili] ∧ σ.objs.length ≤ x ∧ σ.objs.length ≤ q ∧ Ix s x q (un K0) (un K1) es clock (putAll K0 K1 L []).1 ∧ Hon K0 K1 (putAll K0 K1 L []).1) ∨
       ((putAll K0 K1 L []).2 ≠ 0 ∧ v = .tup [.d .nilp, errV (putAll K0 K1 L []).2])
theorem putI_err (i : Int) (t : List UInt8) (M : List Item) : (putI i t M).2 = 0 ∨ (putI i t M).2 = 5 ∨ (putI i t M).2 = 6 := by
  simp only [putI]
  split
  · by_cases h : ‹List UInt8› = t <;> simp [h]
  · exact .inl rfl

theorem s_New {σ : St} (K0 K1 : W64) {d : V} {L : List (List UInt8)} (hd : LV d (hRows L)) (hL : ∀ t ∈ L, t.length = 32) (hlen : L.length ≤ 89) :
    Dn.Call Γ cx .raw 7 [.da [.int .u64 (un K0), .int .u64 (un K1)], d] σ (NewP σ K0 K1 L) := by
  refine Dn.Call.body (fc := c7) rfl ?_
  have hld : ∀ σ, lenT σ .slice d = some L.length := fun σ => by rw [hd.len, hRows_len]
  simp -implicitDefEqProofs [c7, c7_k10, mkAgg, ofD]
  obtain ⟨σ1, hσ1⟩ : ∃ s : St, (⟨σ.objs ++ [.cells [Wd K0, Wd K1], .map [] 0, .cells [Wd K0, Wd K1, .map (σ.objs.length + 1)]], σ.toks⟩ : St) = s := ⟨_, rfl⟩
  rw [hσ1]
  have f1 : Fr [] σ σ1 := ⟨by rw [← hσ1]; simp, fun r _ hr => by rw [← hσ1]; simp only; rw [List.getElem?_append_left hr]⟩
  have h1 : Ix σ1 (σ.objs.length + 2) (σ.objs.length + 1) (un K0) (un K1) [] 0 [] :=
    ⟨by rw [← hσ1]; simp [List.getElem?_append], by rw [← hσ1]; simp [List.getElem?_append], ⟨⟨by simp, by simp⟩, by simp⟩, ⟨by simp, by simp, by simp, by simp⟩⟩
  have tk1 : σ1.toks = σ.toks := by rw [← hσ1]
  clear hσ1
  obtain ⟨x, hx⟩ : ∃ x, σ.objs.length + 2 = x := ⟨_, rfl⟩
  obtain ⟨q, hq⟩ : ∃ q, σ.objs.length + 1 = q := ⟨_, rfl⟩
  have hxl : σ.objs.length ≤ x := by omega
  have hql : σ.objs.length ≤ q := by omega
  rw [hx, hq] at h1
  rw [hx]
  clear hx hq
  simp -implicitDefEqProofs [c7_k9, hld, c7_k8]
  refine wloopI (InvNew σ K0 K1 x q d L) (m := L.length) ⟨0, [], 0, [], rfl, by omega, rfl, h1, (by intro p hp; cases hp), by simp, f1, tk1, rfl⟩ ?_
  rintro m e s ⟨i, es, clock, M, rfl, hi, rfl, hix, hon, hml, hfr, htk, hpa⟩
  by_cases hil : i < L.length
  rotate_left
  · obtain rfl : i = L.length := by omega
    simp only [List.drop_length, putAll] at hpa
    simp -implicitDefEqProofs [c7_l7, c7_k6, c7_k0]
    exact ⟨hfr, htk, .inl ⟨by rw [hpa], x, q, es, clock, rfl, hxl, hql, by rw [hpa]; exact hix, by rw [hpa]; exact hon⟩⟩
  have hii : (i : Int) < L.length := by omega
  obtain ⟨t, ht⟩ : ∃ t, L[i]? = some t := ⟨_, List.getElem?_eq_getElem hil⟩
  have ht32 := hL t (List.mem_of_getElem? ht)
  have htl := hashD_len t
  rw [ht32] at htl
  have htk32 : List.take 32 (hashD t) = hashD t := List.take_of_length_le (by omega)
  have hia := fun σ => hd.iaddr σ (k := .i64) (sz := 32) (i := i) (hRows_at ht) htl
  have hdr : L.drop i = t :: L.drop (i + 1) := by
    obtain ⟨hi', rfl⟩ := List.getElem?_eq_some_iff.1 ht
    exact List.drop_eq_getElem_cons hi'
  rw [hdr, putAll] at hpa
  have hzl : (List.replicate 32 (V.d (.int .u8 0))).length = 32 := List.length_replicate
  have hzd : (List.replicate 32 (V.d (.int .u8 0))).drop 32 = [] := List.drop_of_length_le (by rw [hzl]; omega)
  clear hil
  simp -implicitDefEqProofs [-List.reduceReplicate, c7_l7, c7_k6, hii, c7_k5, c7_k4, hia, htl, htk32, hashD_byV, byV_len, ht32, hzd, c7_k3, byV_take ht32, ofD_byV]
  obtain ⟨s1, hs1⟩ : ∃ s' : St, (⟨s.objs ++ [.cells (byV t)], s.toks⟩ : St) = s' := ⟨_, rfl⟩
  rw [hs1]
  have f2 : Fr [] s s1 := ⟨by rw [← hs1]; simp, fun r _ hr => by rw [← hs1]; simp only; rw [List.getElem?_append_left hr]⟩
  have tk2 : s1.toks = s.toks := by rw [← hs1]
  clear hs1
  obtain ⟨p1, p2, p3⟩ := putI_plain hix.pl hon ht32 (by omega)
  refine use_raw (s_ixPut (hix.mono f2) (by omega) ht32) fun v s2 ⟨hv, ⟨es', clock', hix2⟩, hfr2, htk2⟩ => ?_
  have hfr3 : Fr [] σ s2 := ⟨Nat.le_trans hfr.len (Nat.le_trans f2.len hfr2.len), fun r _ hl => by
    rw [hfr2.at_ r (by simp; omega) (Nat.lt_of_lt_of_le hl (Nat.le_trans hfr.len f2.len))]
    exact (hfr.trans f2).at_ r (by simp) hl⟩
  have htk3 : s2.toks = σ.toks := by rw [htk2, tk2, htk]
  subst hv
  rcases putI_err (short K0 K1 t) t M with h0 | h5
  · rw [if_pos h0] at hpa
    rw [h0]
    simp -implicitDefEqProofs [errV, c7_k2, c7_k1, eqV, V.isNil, Opd.isC, wrap_i64 (n := (i : Int) + 1) (by omega) (by omega)]
    exact ⟨L.length - (i + 1), by omega, i + 1, es', clock', _, rfl, by omega, rfl, hix2, p2, by omega, hfr3, htk3, hpa⟩
  · have h0 : (putI (short K0 K1 t) t M).2 ≠ 0 := by omega
    rw [if_neg h0] at hpa
    simp -implicitDefEqProofs [errV, h0, c7_k2, c7_k1, eqV, V.isNil, Opd.isC]
    exact ⟨hfr3, htk3, .inr ⟨by rw [hpa]; exact h0, by rw [hpa]; simp [errV, h0]⟩⟩

open Sip

/-! ### the reference's Get and Remove -/
theorem mRows_at {M : List Item} {i : Nat} {p : Item} (hp : M[i]? = some p) : (mRows M)[i]? = some (itemRow p) := by simp [mRows, hp]
def InvRG (x : D) (M : List Item) (n : Int) (m : Nat) (e : Env) (s : St) : Prop := ∃ i : Nat, e = [(0, .d x), (1, X n), (4, .ref 0 0), (6, I i)] ∧ i ≤ M.length ∧ m = M.length - i ∧ s = ⟨[.cells (List.replicate 32 (V.d (.int .u8 0)))], []⟩ ∧ gt M n = gt (M.drop i) n

theorem s_rGet {x : D} {M : List Item} (hx : LV (.d x) (mRows M)) (hM : ∀ p ∈ M, p.2.length = 32) (hn : M.length ≤ 1000) (n : Int) : Dn.Call Γ cx .val 14 [.d x, X n] St.empty fun v _ => v = gotV (gt M n) := by
  refine Dn.Call.body (fc := c14) rfl ?_
  have hlx : ∀ σ, lenT σ .slice (.d x) = some M.length := fun σ => by rw [hx.len, mRows_len]
  have hzm := hz_map
  have hzl : (List.replicate 32 (V.d (.int .u8 0))).length = 32 := List.length_replicate
  have hzd : (List.replicate 32 (V.d (.int .u8 0))).drop 32 = [] := List.drop_of_length_le (by rw [hzl]; omega)
  have hzo := ofD_z
  simp -implicitDefEqProofs [-List.reduceReplicate, c14, c14_k8, c14_k7]
  refine wloopI (InvRG x M n) (m := M.length) ⟨0, rfl, by omega, rfl, rfl, rfl⟩ ?_
  rintro m e s ⟨i, rfl, hi, rfl, rfl, hgt⟩
  by_cases hil : i < M.length
  rotate_left
  · obtain rfl : i = M.length := by omega
    rw [List.drop_length] at hgt
    simp -implicitDefEqProofs [-List.reduceReplicate, c14_l6, c14_k5, hlx, c14_k0, hzm, hzl, hzd, hzo, hgt, gt, gotV]
  have hii : (i : Int) < M.length := by omega
  obtain ⟨p, hp⟩ : ∃ p, M[i]? = some p := ⟨_, List.getElem?_eq_getElem hil⟩
  have hp32 := hM p (List.mem_of_getElem? hp)
  have hia := fun σ => hx.iaddr σ (k := .i64) (sz := 33) (i := i) (mRows_at hp) (by simp [itemRow, hashD_len, hp32])
  have hdr : M.drop i = p :: M.drop (i + 1) := by
    obtain ⟨hi', rfl⟩ := List.getElem?_eq_some_iff.1 hp
    exact List.drop_eq_getElem_cons hi'
  rw [hdr, gt] at hgt
  have hhl := hashD_len p.2
  rw [hp32] at hhl
  have htk : List.take 32 (hashD p.2) = hashD p.2 := List.take_of_length_le (by omega)
  clear hil
  simp -implicitDefEqProofs [-List.reduceReplicate, c14_l6, c14_k5, hlx, hii, c14_k4, c14_k3, hia, itemRow]
  by_cases hpn : p.1 = n
  · rw [if_pos hpn] at hgt
    simp -implicitDefEqProofs [-List.reduceReplicate, hpn, c14_k2, hia, itemRow, hhl, htk, hashD_byV, byV_len, hp32, hzd, hgt, gotV, byV_take hp32, ofD_byV]
  · rw [if_neg hpn] at hgt
    simp -implicitDefEqProofs [-List.reduceReplicate, hpn, c14_k2, c14_k1, wrap_i64 (n := (i : Int) + 1) (by omega) (by omega)]
    exact ⟨M.length - (i + 1), by omega, i + 1, rfl, by omega, rfl, rfl, hgt⟩

def InvRR (x : D) (M : List Item) (t : List UInt8) (m : Nat) (e : Env) (s : St) : Prop := ∃ (i : Nat) (v : V), e = [(0, .d x), (3, .ref 0 0), (6, v), (7, I i)] ∧ i ≤ M.length ∧ m = M.length - i ∧ s.objs = [.cells (byV t)] ∧ App s 33 v (mRows (del (M.take i) t))
theorem itemRow_len {p : Item} (h : p.2.length = 32) : (itemRow p).length = 33 := by simp [itemRow, hashD_len, h]
theorem del_h {M : List Item} (hM : ∀ p ∈ M, p.2.length = 32) (t : List UInt8) : ∀ p ∈ del M t, p.2.length = 32 := fun p hp => hM p (List.mem_filter.1 hp).1
theorem frz_item (p : Item) : ofD ((itemRow p).map (frzV ∘ V.d)) = some (itemRow p) := by
  simp only [itemRow, List.map_cons, Function.comp, frzV, ofD, frz_hash]

theorem s_rRemove {x : D} {M : List Item} (hx : LV (.d x) (mRows M)) (hM : ∀ p ∈ M, p.2.length = 32) (hn : M.length ≤ 1000) {t : List UInt8} (ht : t.length = 32) : Dn.Call Γ cx .val 34 [.d x, .da (hashD t)] St.empty fun v _ => ∃ d, v = .tup [.d d, B (decide ((del M t).length < M.length))] ∧ LV (.d d) (mRows (del M t)) := by
  refine Dn.Call.body (fc := c34) rfl ?_
  have hlx : ∀ σ, lenT σ .slice (.d x) = some M.length := fun σ => by rw [hx.len, mRows_len]
  simp -implicitDefEqProofs [-List.reduceReplicate, c34, c34_k9, c34_k8, c34_k7, hashD_byV]
  refine wloopI (InvRR x M t) (m := M.length) ⟨0, _, rfl, by omega, rfl, rfl, .nil⟩ ?_
  rintro m e s ⟨i, v, rfl, hi, rfl, hob, hv⟩
  by_cases hil : i < M.length
  rotate_left
  · obtain rfl : i = M.length := by omega
    rw [List.take_length] at hv
    have hdv := hv.lv.dv s
    obtain ⟨d, hd⟩ := hdv.2.2.1
    have hl := hv.lv.len s
    rw [mRows_len] at hl
    simp -implicitDefEqProofs [-List.reduceReplicate, c34_l6, c34_k5, hlx, c34_k0, hl, hdv.1]
    exact ⟨d, hd, hd ▸ hdv.2.1⟩
  have hii : (i : Int) < M.length := by omega
  obtain ⟨p, hp⟩ : ∃ p, M[i]? = some p := ⟨_, List.getElem?_eq_getElem hil⟩
  have hp32 := hM p (List.mem_of_getElem? hp)
  have hpl := itemRow_len hp32
  have hia := fun σ => hx.iaddr σ (k := .i64) (sz := 33) (i := i) (mRows_at hp) hpl
  have hta : M.take (i + 1) = M.take i ++ [p] := by rw [List.take_add_one, hp]; rfl
  have hhl := hashD_len p.2
  rw [hp32] at hhl
  have htk : List.take 32 (hashD p.2) = hashD p.2 := List.take_of_length_le (by omega)
  have htk3 : List.take 33 (itemRow p) = itemRow p := List.take_of_length_le (by omega)
  have hfd : (itemRow p).drop 1 = hashD p.2 := rfl
  clear hil
  simp -implicitDefEqProofs [-List.reduceReplicate, c34_l6, c34_k5, hlx, hii, c34_k4, c34_k3]
  refine w_drw (fun _ => .val) [3] (by decide +kernel) ?_
  simp only [room_zero]
  simp -implicitDefEqProofs [-List.reduceReplicate, hia, hpl, hfd, hhl, htk, hob, byV_len, ht, byV_take ht, ofD_byV, eq_hash hp32 ht]
  by_cases hpt : p.2 = t
  · have hd : del (M.take (i + 1)) t = del (M.take i) t := by rw [hta]; simp [del, List.filter_append, hpt]
    simp -implicitDefEqProofs [-List.reduceReplicate, hpt, c34_k2, c34_k1, wrap_i64 (n := (i : Int) + 1) (by omega) (by omega)]
    exact ⟨M.length - (i + 1), by omega, i + 1, v, rfl, by omega, rfl, hob, by rw [hd]; exact hv⟩
  · have hd : del (M.take (i + 1)) t = del (M.take i) t ++ [p] := by rw [hta]; simp [del, List.filter_append, hpt]
    have hdl : (del (M.take i) t).length ≤ 1000 := by
      have := List.length_filter_le (fun p : Item => decide (p.2 ≠ t)) (M.take i)
      simp [del] at this ⊢
      omega
    obtain ⟨v2, s2, hap, happ, ho, -, -⟩ := hv.push (bytes := 36) (by decide) (mRows_fit (del_h (fun q hq => hM q (List.mem_of_mem_take hq)) t)) (ys := mRows [p]) (mRows_fit (by simp [hp32])) (by simp [mRows_len]; omega) (by simp [mRows_len]; omega)
    rw [show mRows (del (M.take i) t) ++ mRows [p] = mRows (del (M.take (i + 1)) t) by rw [hd]; simp [mRows]] at happ
    simp -implicitDefEqProofs [-List.reduceReplicate, hpt, c34_k2, hia, hpl, htk3, repl, rowsOf, frz_item]
    refine i_app_f (v := v2) (s := s2) ?_ ?_
    · simp -implicitDefEqProofs [V.rows]
      exact hap none
    simp -implicitDefEqProofs [c34_k1, wrap_i64 (n := (i : Int) + 1) (by omega) (by omega)]
    exact ⟨M.length - (i + 1), by omega, i + 1, v2, rfl, by omega, rfl, by rw [ho]; exact hob, happ⟩

open Sip

/-! ### the reference's Put -/
def stp (i : Int) (t : List UInt8) (o : List Item × Bool) (p : Item) : List Item × Bool := cond (!o.2 && decide (i < p.1)) (o.1 ++ [(i, t), p], true) (o.1 ++ [p], o.2)
/-- What was put together of the first items. -/
def pre (i : Int) (t : List UInt8) (l : List Item) : List Item × Bool := l.foldl (stp i t) ([], false)
theorem pre_snoc (i : Int) (t : List UInt8) (l : List Item) (p : Item) : pre i t (l ++ [p]) = stp i t (pre i t l) p := by
  simp [pre]
theorem pre_key (i : Int) (t : List UInt8) : ∀ (l : List Item) (o : List Item) (b : Bool), cond (l.foldl (stp i t) (o, b)).2 (l.foldl (stp i t) (o, b)).1 ((l.foldl (stp i t) (o, b)).1 ++ [(i, t)]) = cond b (o ++ l) (o ++ ins i t l) := by
  intro l
  induction l with
  | nil => intro o b; cases b <;> simp [ins]
  | cons p r ih =>
    intro o b
    simp only [List.foldl_cons]
    cases b with
    | true =>
      have h1 : stp i t (o, true) p = (o ++ [p], true) := by simp [stp]
      rw [h1, ih]
      simp
    | false =>
      by_cases h : i < p.1
      · have h1 : stp i t (o, false) p = (o ++ [(i, t), p], true) := by simp [stp, h]
        rw [h1, ih]
        simp [ins, h]
      · have h1 : stp i t (o, false) p = (o ++ [p], false) := by simp [stp, h]
        rw [h1, ih]
        simp [ins, h]
theorem pre_end (i : Int) (t : List UInt8) (M : List Item) : cond (pre i t M).2 (pre i t M).1 ((pre i t M).1 ++ [(i, t)]) = ins i t M := by
  simpa [pre] using pre_key i t M [] false
theorem pre_fold (i : Int) (t : List UInt8) : ∀ (l : List Item) (o : List Item) (b : Bool), (l.foldl (stp i t) (o, b)).1.length ≤ o.length + 2 * l.length ∧ ∀ p ∈ (l.foldl (stp i t) (o, b)).1, p ∈ o ∨ p = (i, t) ∨ p ∈ l := by
  intro l
  induction l with
  | nil => exact fun o b => ⟨by simp, fun p hp => .inl hp⟩
  | cons p r ih =>
    intro o b
    simp only [List.foldl_cons]
    rcases h : (!b && decide (i < p.1)) with _ | _
    · have h1 : stp i t (o, b) p = (o ++ [p], b) := by simp only [stp, h]; rfl
      rw [h1]
      obtain ⟨h2, h3⟩ := ih (o ++ [p]) b
      refine ⟨by simp at h2 ⊢; omega, fun q hq => ?_⟩
      rcases h3 q hq with h | h | h
      · simp at h
        rcases h with h | rfl
        · exact .inl h
        · exact .inr (.inr (by simp))
      · exact .inr (.inl h)
      · exact .inr (.inr (by simp [h]))
    · have h1 : stp i t (o, b) p = (o ++ [(i, t), p], true) := by simp only [stp, h]; rfl
      rw [h1]
      obtain ⟨h2, h3⟩ := ih (o ++ [(i, t), p]) true
      refine ⟨by simp at h2 ⊢; omega, fun q hq => ?_⟩
      rcases h3 q hq with h | h | h
      · simp at h
        rcases h with h | rfl | rfl
        · exact .inl h
        · exact .inr (.inl rfl)
        · exact .inr (.inr (by simp))
      · exact .inr (.inl h)
      · exact .inr (.inr (by simp [h]))
theorem pre_len (i : Int) (t : List UInt8) (l : List Item) : (pre i t l).1.length ≤ 2 * l.length := by
  have := (pre_fold i t l [] false).1
  simpa [pre] using this
theorem pre_32 {i : Int} {t : List UInt8} (ht : t.length = 32) {l : List Item} (hl : ∀ p ∈ l, p.2.length = 32) : ∀ p ∈ (pre i t l).1, p.2.length = 32 := fun p hp => by
  rcases (pre_fold i t l [] false).2 p hp with h | rfl | h
  · cases h
  · exact ht
  · exact hl p h

def InvRP (x : D) (K0 K1 : W64) (M : List Item) (id : Int) (t : List UInt8) (m : Nat) (e : Env) (s : St) : Prop := ∃ (i : Nat) (v : V), e = [(0, .d x), (5, .ref 1 0), (8, X id), (9, v), (10, B (pre id t (M.take i)).2), (11, I i)] ∧ i ≤ M.length ∧ m = M.length - i ∧ s.objs = [.cells [Wd K0, Wd K1], .cells (byV t)] ∧ App s 33 v (mRows (pre id t (M.take i)).1) ∧ gt M id = gt (M.drop i) id

set_option maxHeartbeats 1000000 in
theorem s_rPut (K0 K1 : W64) {x : D} {M : List Item} (hx : LV (.d x) (mRows M)) (hM : ∀ p ∈ M, p.2.length = 32) (hn : M.length ≤ 1000) {t : List UInt8} (ht : t.length = 32) :
    Dn.Call Γ cx .val 26 [.d x, .da [.int .u64 (un K0), .int .u64 (un K1)], .da (hashD t)] St.empty fun v _ => ∃ d, v = .tup [.d d, I (putI (short K0 K1 t) t M).2] ∧ LV (.d d) (mRows (putI (short K0 K1 t) t M).1) := by
  refine Dn.Call.body (fc := c26) rfl ?_
  have hlx : ∀ σ, lenT σ .slice (.d x) = some M.length := fun σ => by rw [hx.len, mRows_len]
  simp -implicitDefEqProofs [-List.reduceReplicate, c26, c26_k18, hashD_byV, byV_len, ht, byV_take ht, ofD_byV, mkAgg, ofD]
  refine use_fn rfl (s_rShort K0 K1 ht) rfl ?_
  generalize short K0 K1 t = id
  simp -implicitDefEqProofs [-List.reduceReplicate, c26_k17, c26_k16, c26_k15, c26_k14]
  refine wloopI (InvRP x K0 K1 M id t) (m := M.length) ⟨0, _, rfl, by omega, rfl, rfl, .nil, rfl⟩ ?_
  rintro m e s ⟨i, v, rfl, hi, rfl, hob, hv, hgt⟩
  have hpe := pre_end id t M
  have hhl := hashD_len t
  rw [ht] at hhl
  have htk : List.take 32 (hashD t) = hashD t := List.take_of_length_le (by omega)
  by_cases hil : i < M.length
  rotate_left
  · obtain rfl : i = M.length := by omega
    rw [List.drop_length, gt] at hgt
    rw [List.take_length] at hv ⊢
    have hput : putI id t M = (ins id t M, 0) := by simp [putI, hgt]
    rw [hput]
    have hlen := pre_len id t M
    have h32 := pre_32 (i := id) ht hM
    rcases hb : (pre id t M).2 with _ | _
    · rw [hb] at hpe
      simp only [cond] at hpe
      obtain ⟨v2, s2, hap, happ, ho, -, -⟩ := hv.push (bytes := 36) (by decide) (mRows_fit h32) (ys := mRows [(id, t)]) (mRows_fit (by simp [ht])) (by simp [mRows_len]; omega) (by simp [mRows_len]; omega)
      rw [show mRows (pre id t M).1 ++ mRows [(id, t)] = mRows (ins id t M) by rw [← hpe]; simp [mRows]] at happ
      simp -implicitDefEqProofs [-List.reduceReplicate, c26_l13, c26_k12, hlx, c26_k2, c26_k1, hob, byV_len, ht, byV_take ht, ofD_byV, hhl, hashD_byV, frz_byV, frzV, repl, rowsOf, htk]
      refine i_app_f (v := v2) (s := s2) ?_ ?_
      · simp -implicitDefEqProofs [V.rows]
        exact hap none
      have hdv := happ.lv.dv s2
      obtain ⟨d, hd⟩ := hdv.2.2.1
      simp -implicitDefEqProofs [c26_k0, hdv.1]
      exact ⟨d, hd, hd ▸ hdv.2.1⟩
    · rw [hb] at hpe
      simp only [cond] at hpe
      rw [hpe] at hv
      have hdv := hv.lv.dv s
      obtain ⟨d, hd⟩ := hdv.2.2.1
      simp -implicitDefEqProofs [-List.reduceReplicate, c26_l13, c26_k12, hlx, c26_k2, c26_k1, c26_k0, hdv.1]
      exact ⟨d, hd, hd ▸ hdv.2.1⟩
  have hii : (i : Int) < M.length := by omega
  obtain ⟨p, hp⟩ : ∃ p, M[i]? = some p := ⟨_, List.getElem?_eq_getElem hil⟩
  have hp32 := hM p (List.mem_of_getElem? hp)
  have hpl := itemRow_len hp32
  have hia := fun σ => hx.iaddr σ (k := .i64) (sz := 33) (i := i) (mRows_at hp) hpl
  have hta : M.take (i + 1) = M.take i ++ [p] := by rw [List.take_add_one, hp]; rfl
  have hdr : M.drop i = p :: M.drop (i + 1) := by
    obtain ⟨hi', rfl⟩ := List.getElem?_eq_some_iff.1 hp
    exact List.drop_eq_getElem_cons hi'
  rw [hdr, gt] at hgt
  have hhp := hashD_len p.2
  rw [hp32] at hhp
  have htp : List.take 32 (hashD p.2) = hashD p.2 := List.take_of_length_le (by omega)
  have hf0 : itemRow p = .int .u32 p.1 :: hashD p.2 := rfl
  have htk3 : List.take 33 (itemRow p) = itemRow p := List.take_of_length_le (by omega)
  have hpre : pre id t (M.take (i + 1)) = stp id t (pre id t (M.take i)) p := by rw [hta, pre_snoc]
  have hlen := pre_len id t (M.take i)
  have hlen2 := List.length_take_le i M
  have h32 := pre_32 (i := id) ht (fun q hq => hM q (List.mem_of_mem_take hq) : ∀ q ∈ M.take i, q.2.length = 32)
  clear hil
  simp -implicitDefEqProofs [-List.reduceReplicate, c26_l13, c26_k12, hlx, hii, c26_k11, c26_k10]
  refine w_drw (fun _ => .val) [] (by decide +kernel) ?_
  simp only [room_zero]
  by_cases hpi : p.1 = id
  · rw [if_pos hpi] at hgt
    have hput : putI id t M = (M, if p.2 = t then 6 else 5) := by simp [putI, hgt]
    rw [hput]
    simp -implicitDefEqProofs [-List.reduceReplicate, hia, hf0, hpi, hhp, htp, hob, byV_len, ht, byV_take ht, ofD_byV, eq_hash hp32 ht]
    by_cases hpt : p.2 = t
    · simp -implicitDefEqProofs [-List.reduceReplicate, hpt, c26_k9]
      exact hx
    · simp -implicitDefEqProofs [-List.reduceReplicate, hpt, c26_k9, c26_k8, hia, hf0, hpi, c26_k7]
      exact hx
  · rw [if_neg hpi] at hgt
    simp -implicitDefEqProofs [-List.reduceReplicate, hia, hf0, hpi, c26_k9, c26_k8]
    simp -implicitDefEqProofs [-List.reduceReplicate, hpi, c26_k7]
    have w9 : IntKind.i64.wrap ((i : Int) + 1) = ((i + 1 : Nat) : Int) := by rw [wrap_i64 (by omega) (by omega)]; omega
    rcases hb : (pre id t (M.take i)).2 with _ | _
    · by_cases hlt : id < p.1
      · have hst : pre id t (M.take (i + 1)) = ((pre id t (M.take i)).1 ++ [(id, t), p], true) := by rw [hpre]; simp [stp, hb, hlt]
        obtain ⟨v2, s2, hap, happ, ho, -, -⟩ := hv.push (bytes := 36) (by decide) (mRows_fit h32) (ys := mRows [(id, t)]) (mRows_fit (by simp [ht])) (by simp [mRows_len]; omega) (by simp [mRows_len]; omega)
        obtain ⟨v3, s3, hap3, happ3, ho3, -, -⟩ := happ.push (bytes := 36) (by decide) (fun r hr => by rcases List.mem_append.1 hr with hr | hr; exact mRows_fit h32 r hr; exact mRows_fit (M := [(id, t)]) (by simp [ht]) r hr) (ys := mRows [p]) (mRows_fit (by simp [hp32])) (by simp [mRows_len]; omega) (by simp [mRows_len]; omega)
        rw [show mRows (pre id t (M.take i)).1 ++ mRows [(id, t)] ++ mRows [p] = mRows (pre id t (M.take (i + 1))).1 by rw [hst]; simp [mRows]] at happ3
        simp -implicitDefEqProofs [-List.reduceReplicate, c26_k6, hia, hf0, hlt]
        simp -implicitDefEqProofs [-List.reduceReplicate, c26_k5, hob, byV_len, ht, byV_take ht, ofD_byV, hhl, hashD_byV, frz_byV, frzV, repl, rowsOf, htk]
        refine i_app_f (v := v2) (s := s2) ?_ ?_
        · simp -implicitDefEqProofs [V.rows]
          exact hap none
        simp -implicitDefEqProofs [-List.reduceReplicate, c26_k4, hia, hpl, htk3, repl, rowsOf, frz_item]
        refine i_app_f (v := v3) (s := s3) ?_ ?_
        · simp -implicitDefEqProofs [V.rows]
          exact hap3 none
        simp -implicitDefEqProofs [-List.reduceReplicate, c26_k3, w9]
        exact ⟨M.length - (i + 1), by omega, i + 1, v3, by rw [hst]; rfl, by omega, rfl, by rw [ho3, ho]; exact hob, happ3, hgt⟩
      · have hst : pre id t (M.take (i + 1)) = ((pre id t (M.take i)).1 ++ [p], false) := by rw [hpre]; simp [stp, hb, hlt]
        obtain ⟨v3, s3, hap3, happ3, ho3, -, -⟩ := hv.push (bytes := 36) (by decide) (mRows_fit h32) (ys := mRows [p]) (mRows_fit (by simp [hp32])) (by simp [mRows_len]; omega) (by simp [mRows_len]; omega)
        rw [show mRows (pre id t (M.take i)).1 ++ mRows [p] = mRows (pre id t (M.take (i + 1))).1 by rw [hst]; simp [mRows]] at happ3
        simp -implicitDefEqProofs [-List.reduceReplicate, c26_k6, hia, hf0, hlt]
        simp -implicitDefEqProofs [-List.reduceReplicate, c26_k5, c26_k4, hia, hpl, htk3, repl, rowsOf, frz_item]
        refine i_app_f (v := v3) (s := s3) ?_ ?_
        · simp -implicitDefEqProofs [V.rows]
          exact hap3 none
        simp -implicitDefEqProofs [-List.reduceReplicate, c26_k3, w9]
        exact ⟨M.length - (i + 1), by omega, i + 1, v3, by rw [hst]; rfl, by omega, rfl, by rw [ho3]; exact hob, happ3, hgt⟩
    · have hst : pre id t (M.take (i + 1)) = ((pre id t (M.take i)).1 ++ [p], true) := by rw [hpre]; simp [stp, hb]
      obtain ⟨v3, s3, hap3, happ3, ho3, -, -⟩ := hv.push (bytes := 36) (by decide) (mRows_fit h32) (ys := mRows [p]) (mRows_fit (by simp [hp32])) (by simp [mRows_len]; omega) (by simp [mRows_len]; omega)
      rw [show mRows (pre id t (M.take i)).1 ++ mRows [p] = mRows (pre id t (M.take (i + 1))).1 by rw [hst]; simp [mRows]] at happ3
      simp -implicitDefEqProofs [-List.reduceReplicate, c26_k6]
      simp -implicitDefEqProofs [-List.reduceReplicate, c26_k5, c26_k4, hia, hpl, htk3, repl, rowsOf, frz_item]
      refine i_app_f (v := v3) (s := s3) ?_ ?_
      · simp -implicitDefEqProofs [V.rows]
        exact hap3 none
      simp -implicitDefEqProofs [-List.reduceReplicate, c26_k3, w9]
      exact ⟨M.length - (i + 1), by omega, i + 1, v3, by rw [hst]; rfl, by omega, rfl, by rw [ho3]; exact hob, happ3, hgt⟩

open Sip

/-! ### the reference's Part -/
theorem rpart_k5 {σ0 s : St} {x d : D} {M : List Item} {ids : List Int} {a b : V} {n : Int} {i r : Nat} {cs : List V} {fl : Bool} {Q : PostC} (hi : i < ids.length) (hlen : ids.length ≤ 1000) (hM : ∀ p ∈ M, p.2.length = 32) (hd : LV (.d d) (uRows ids))
    (hT : Two σ0 s 32 1 a b (hRows (pt M ids i).1) (uRows (pt M ids i).2)) (hn : ids[i]? = some n) (oc : s.objs[r]? = some (.cells cs)) (hcs : ∀ u, gt M n = some u → cs = byV u) (hfl : fl = (gt M n).isSome)
    (hQ : ∀ a' b' s' tl, (tl = [] ∨ tl = [(59, B false)]) → Two σ0 s' 32 1 a' b' (hRows (pt M ids (i + 1)).1) (uRows (pt M ids (i + 1)).2) → Q .normal ((0, .d x) :: (1, .d d) :: (6, a') :: (7, b') :: (8, I i) :: tl) s') :
    wcode (Dn.Call Γ cx) cx c16_k5 [(0, .d x), (1, .d d), (6, a), (7, b), (8, I i), (9, B (decide (n ∈ ids.take i))), (11, .ref r 0), (12, B fl)] s Q := by
  have hpt : pt M ids (i + 1) = if n ∈ ids.take i then pt M ids i else match gt M n with
      | some h => ((pt M ids i).1 ++ [h], (pt M ids i).2)
      | none => ((pt M ids i).1, (pt M ids i).2 ++ [n]) := by rw [pt, hn] <;> rfl
  have hl1 := (pt_len M ids i).1
  have hl2 := (pt_len M ids i).2
  have hia := fun σ => hd.iaddr σ (k := .i64) (sz := 1) (i := i) (uRows_at hn) rfl
  by_cases hmem : n ∈ ids.take i
  · rw [if_pos hmem] at hpt
    simp -implicitDefEqProofs [hmem, c16_k5, c16_k4, c16_k3, c16_k2]
    exact hQ a b s _ (.inr rfl) (by rw [hpt]; exact hT)
  · rw [if_neg hmem] at hpt
    cases hg : gt M n with
    | some u =>
      have hu : u.length = 32 := hM _ (gt_some hg)
      have hcu := hcs u hg
      rw [hg] at hpt hfl
      subst hcu hfl
      simp only [Option.isSome]
      have hhl := hashD_len u
      rw [hu] at hhl
      have htk : List.take 32 (hashD u) = hashD u := List.take_of_length_le (by omega)
      obtain ⟨v2, s2, hap, hT3, ho⟩ := hT.push (bytes := 32) (by decide) (hRows_fit (pt_32 hM ids i)) (y := hashD u) hhl (by simp [hRows_len]; omega) (by simp [hRows_len]; omega)
      rw [show hRows (pt M ids i).1 ++ [hashD u] = hRows (pt M ids (i + 1)).1 by rw [hpt]; simp [hRows], show (pt M ids i).2 = (pt M ids (i + 1)).2 by rw [hpt]] at hT3
      simp -implicitDefEqProofs [-List.reduceReplicate, hmem, c16_k5, c16_k4, oc, byV_len, hu, byV_take hu, ofD_byV, hashD_byV, repl, rowsOf, frz_hash, frz_byV, frzV, hhl, htk]
      refine i_app_f (v := v2) (s := s2) ?_ ?_
      · simp -implicitDefEqProofs [V.rows]
        exact hap none
      simp -implicitDefEqProofs [c16_k3, c16_k2]
      exact hQ v2 b s2 _ (.inr rfl) hT3
    | none =>
      rw [hg] at hpt hfl
      subst hfl
      simp only [Option.isSome]
      obtain ⟨v2, s2, hap, hT3, ho⟩ := hT.swap.push (bytes := 4) (by decide) (uRows_fit _) (y := [.int .u32 n]) rfl (by simp [uRows_len]; omega) (by simp [uRows_len]; omega)
      rw [show uRows (pt M ids i).2 ++ [[.int .u32 n]] = uRows (pt M ids (i + 1)).2 by rw [hpt]; simp [uRows], show (pt M ids i).1 = (pt M ids (i + 1)).1 by rw [hpt]] at hT3
      simp -implicitDefEqProofs [-List.reduceReplicate, hmem, c16_k5, c16_k4, c16_k3]
      simp -implicitDefEqProofs [-List.reduceReplicate, c16_k2, hia, repl, rowsOf, frzV]
      refine i_app_f (v := v2) (s := s2) ?_ ?_
      · simp -implicitDefEqProofs [V.rows]
        exact hap none
      simp -implicitDefEqProofs
      exact hQ a v2 s2 _ (.inl rfl) hT3.swap

def InvRPa (x d : D) (M : List Item) (ids : List Int) (m : Nat) (e : Env) (s : St) : Prop := ∃ (i : Nat) (a b : V), e = [(0, .d x), (1, .d d), (6, a), (7, b), (8, I i)] ∧ i ≤ ids.length ∧ m = ids.length - i ∧ Two St.empty s 32 1 a b (hRows (pt M ids i).1) (uRows (pt M ids i).2)
def InvAg (x d : D) (ids : List Int) (n : Int) (i : Nat) (a b : V) (s0 : St) (m : Nat) (e : Env) (s : St) : Prop := ∃ k : Nat, e = [(0, .d x), (1, .d d), (6, a), (7, b), (8, I i), (9, B (decide (n ∈ ids.take k))), (10, I k)] ∧ k ≤ i ∧ m = i - k ∧ s = s0

theorem s_rPart {x : D} {M : List Item} (hx : LV (.d x) (mRows M)) (hM : ∀ p ∈ M, p.2.length = 32) (hml : M.length ≤ 1000) {d : D} {ids : List Int} (hd : LV (.d d) (uRows ids)) (hlen : ids.length ≤ 1000) :
    Dn.Call Γ cx .val 16 [.d x, .d d] St.empty fun v _ => ∃ a b, v = .tup [.d a, .d b] ∧ LV (.d a) (hRows (pt M ids ids.length).1) ∧ LV (.d b) (uRows (pt M ids ids.length).2) := by
  refine Dn.Call.body (fc := c16) rfl ?_
  have hld : ∀ σ, lenT σ .slice (.d d) = some ids.length := fun σ => by rw [hd.len, uRows_len]
  simp -implicitDefEqProofs [c16, c16_k21, c16_k20, c16_k19, c16_k18]
  refine wloopI (InvRPa x d M ids) (m := ids.length) ⟨0, _, _, rfl, by omega, rfl, Two.nil St.empty 32 1⟩ ?_
  rintro m e s ⟨i, a, b, rfl, hi, rfl, hT⟩
  by_cases hil : i < ids.length
  rotate_left
  · obtain rfl : i = ids.length := by omega
    have hda := hT.pa.lv.dv s
    have hdb := hT.pb.lv.dv s
    obtain ⟨d1, hd1⟩ := hda.2.2.1
    obtain ⟨d2, hd2⟩ := hdb.2.2.1
    simp -implicitDefEqProofs [c16_l17, c16_k16, hld, c16_k0, hda.1, hdb.1]
    exact ⟨d1, d2, ⟨hd1, hd2⟩, hd1 ▸ hda.2.1, hd2 ▸ hdb.2.1⟩
  have hii : (i : Int) < ids.length := by omega
  obtain ⟨n, hn⟩ : ∃ n, ids[i]? = some n := ⟨_, List.getElem?_eq_getElem hil⟩
  have hia := fun σ => hd.iaddr σ (k := .i64) (sz := 1) (i := i) (uRows_at hn) rfl
  simp -implicitDefEqProofs [c16_l17, c16_k16, hld, hii, c16_k15, c16_k14, c16_k13, c16_k12]
  refine wloopI (InvAg x d ids n i a b s) (m := i) ⟨0, by simp [Env.pick, Env.get], by omega, rfl, rfl⟩ ?_
  rintro m e s' ⟨k, rfl, hk, rfl, rfl⟩
  by_cases hki : k < i
  · have hkk : (k : Int) < i := by omega
    obtain ⟨g, hg⟩ : ∃ g, ids[k]? = some g := ⟨_, List.getElem?_eq_getElem (by omega)⟩
    have hib := fun σ => hd.iaddr σ (k := .i64) (sz := 1) (i := k) (uRows_at hg) rfl
    have htk : ids.take (k + 1) = ids.take k ++ [g] := by rw [List.take_add_one, hg]; rfl
    have w9 : IntKind.i64.wrap ((k : Int) + 1) = ((k + 1 : Nat) : Int) := by rw [wrap_i64 (by omega) (by omega)]; omega
    clear hil hki
    simp -implicitDefEqProofs [c16_l11, c16_k10, hkk, c16_k9, c16_k8]
    refine w_drw (fun _ => .val) [] (by decide +kernel) ?_
    simp only [room_zero]
    by_cases hmk : n ∈ ids.take k
    · simp -implicitDefEqProofs [hmk, c16_k7, w9]
      exact ⟨i - (k + 1), by omega, k + 1, by rw [htk]; simp [hmk], by omega, rfl, rfl⟩
    · simp -implicitDefEqProofs [hmk, hia, hib, c16_k7, w9]
      exact ⟨i - (k + 1), by omega, k + 1, by rw [htk]; simp [hmk, eq_comm], by omega, rfl, rfl⟩
  · obtain rfl : k = i := by omega
    have w9 : IntKind.i64.wrap ((k : Int) + 1) = ((k + 1 : Nat) : Int) := by rw [wrap_i64 (by omega) (by omega)]; omega
    simp -implicitDefEqProofs [c16_l11, c16_k10, c16_k6, hia]
    refine use_fn rfl (s_rGet hx hM hml n) ?_ ?_
    · cases gt M n <;> rfl
    have hzm := hz_map
    have hzl : (List.replicate 32 (V.d (.int .u8 0))).length = 32 := List.length_replicate
    have hzd : (List.replicate 32 (V.d (.int .u8 0))).drop 32 = [] := List.drop_of_length_le (by rw [hzl]; omega)
    have fin : ∀ (cs : List V) (fl : Bool), (∀ u, gt M n = some u → cs = byV u) → fl = (gt M n).isSome → True := fun _ _ _ _ => trivial
    cases hg : gt M n with
    | some u =>
      have hu : u.length = 32 := hM _ (gt_some hg)
      simp -implicitDefEqProofs [-List.reduceReplicate, gotV, hashD_byV, byV_len, hu, hzd]
      refine rpart_k5 hil hlen hM hd (hT.grow (s' := ⟨s'.objs ++ [.cells (byV u)], s'.toks⟩) ⟨by simp, fun r _ hr => by simp only; rw [List.getElem?_append_left hr]⟩ rfl) hn (cs := byV u) (by simp) (fun v hv => by rw [hg] at hv; cases hv; rfl) (by rw [hg]; rfl) ?_
      rintro a' b' s2 tl (rfl | rfl) hT2
      · simp -implicitDefEqProofs [c16_k1, w9]
        exact ⟨ids.length - (k + 1), by omega, k + 1, a', b', rfl, by omega, rfl, hT2⟩
      · simp -implicitDefEqProofs [c16_k1, w9]
        exact ⟨ids.length - (k + 1), by omega, k + 1, a', b', rfl, by omega, rfl, hT2⟩
    | none =>
      simp -implicitDefEqProofs [-List.reduceReplicate, gotV, hzm, hzl, hzd]
      refine rpart_k5 hil hlen hM hd (hT.grow (s' := ⟨s'.objs ++ [.cells (List.replicate 32 (V.d (.int .u8 0)))], s'.toks⟩) ⟨by simp, fun r _ hr => by simp only; rw [List.getElem?_append_left hr]⟩ rfl) hn (cs := List.replicate 32 (V.d (.int .u8 0))) (by simp) (fun v hv => by rw [hg] at hv; cases hv) (by rw [hg]; rfl) ?_
      rintro a' b' s2 tl (rfl | rfl) hT2
      · simp -implicitDefEqProofs [c16_k1, w9]
        exact ⟨ids.length - (k + 1), by omega, k + 1, a', b', rfl, by omega, rfl, hT2⟩
      · simp -implicitDefEqProofs [c16_k1, w9]
        exact ⟨ids.length - (k + 1), by omega, k + 1, a', b', rfl, by omega, rfl, hT2⟩

open Sip

/-! ### lists side by side, errors as numbers -/
def InvHs (x y : D) (n : Nat) (m : Nat) (e : Env) (σ : St) : Prop := ∃ i : Nat, e = [(0, .d x), (1, .d y), (12, I n), (13, I i)] ∧ i ≤ n ∧ m = n - i ∧ σ = St.empty
theorem s_Hashes {x y : D} {L : List (List UInt8)} (hx : LV (.d x) (hRows L)) (hy : LV (.d y) (hRows L)) (hL : ∀ h ∈ L, h.length = 32) (hlen : L.length ≤ 1000000) : Dn.Call Γ cx .val 17 [.d x, .d y] St.empty fun v _ => v = B true := by
  refine Dn.Call.body (fc := c17) rfl ?_
  have hlx : ∀ σ, lenT σ .slice (.d x) = some L.length := fun σ => by rw [hx.len, hRows_len]
  have hly : ∀ σ, lenT σ .slice (.d y) = some L.length := fun σ => by rw [hy.len, hRows_len]
  simp -implicitDefEqProofs [c17, c17_k9, c17_k8, c17_k7, c17_k6, hlx, hly]
  refine wloopI (InvHs x y L.length) (m := L.length) ⟨0, rfl, by omega, rfl, rfl⟩ ?_
  rintro m e σ ⟨i, rfl, hi, rfl, rfl⟩
  by_cases hil : i < L.length
  · obtain ⟨g, hg⟩ : ∃ g, L[i]? = some g := ⟨L[i], by simp [hil]⟩
    have hg32 := hL g (List.mem_of_getElem? hg)
    have hgl := hashD_len g
    rw [hg32] at hgl
    have htk : List.take 32 (hashD g) = hashD g := List.take_of_length_le (by omega)
    have hia := fun σ => hx.iaddr σ (k := .i64) (sz := 32) (hRows_at hg) hgl
    have hib := fun σ => hy.iaddr σ (k := .i64) (sz := 32) (hRows_at hg) hgl
    have hii : (i : Int) < L.length := by omega
    clear hil
    simp -implicitDefEqProofs [-List.reduceReplicate, c17_l5, c17_k4, hii, c17_k3, c17_k2, c17_k1]
    refine w_drw (fun _ => .val) [] (by decide +kernel) ?_
    simp only [room_zero]
    simp -implicitDefEqProofs [-List.reduceReplicate, hia, hib, hgl, htk, eq_hash hg32 hg32, c17_k0, wrap_i64 (n := (i : Int) + 1) (by omega) (by omega)]
    exact ⟨L.length - (i + 1), by omega, i + 1, rfl, by omega, rfl, rfl⟩
  · obtain rfl : i = L.length := by omega
    simp -implicitDefEqProofs [c17_l5, c17_k4]
theorem s_Words {x y : D} {L : List Int} (hx : LV (.d x) (uRows L)) (hy : LV (.d y) (uRows L)) (hlen : L.length ≤ 1000000) : Dn.Call Γ cx .val 18 [.d x, .d y] St.empty fun v _ => v = B true := by
  refine Dn.Call.body (fc := c18) rfl ?_
  have hlx : ∀ σ, lenT σ .slice (.d x) = some L.length := fun σ => by rw [hx.len, uRows_len]
  have hly : ∀ σ, lenT σ .slice (.d y) = some L.length := fun σ => by rw [hy.len, uRows_len]
  simp -implicitDefEqProofs [c18, c18_k9, c18_k8, c18_k7, c18_k6, hlx, hly]
  refine wloopI (InvHs x y L.length) (m := L.length) ⟨0, rfl, by omega, rfl, rfl⟩ ?_
  rintro m e σ ⟨i, rfl, hi, rfl, rfl⟩
  by_cases hil : i < L.length
  · obtain ⟨g, hg⟩ : ∃ g, L[i]? = some g := ⟨L[i], by simp [hil]⟩
    have hia := fun σ => hx.iaddr σ (k := .i64) (sz := 1) (uRows_at hg) rfl
    have hib := fun σ => hy.iaddr σ (k := .i64) (sz := 1) (uRows_at hg) rfl
    have hii : (i : Int) < L.length := by omega
    clear hil
    simp -implicitDefEqProofs [c18_l5, c18_k4, hii, c18_k3, c18_k2, c18_k1]
    refine w_drw (fun _ => .val) [] (by decide +kernel) ?_
    simp only [room_zero]
    simp -implicitDefEqProofs [hia, hib, c18_k0, wrap_i64 (n := (i : Int) + 1) (by omega) (by omega)]
    exact ⟨L.length - (i + 1), by omega, i + 1, rfl, by omega, rfl, rfl⟩
  · obtain rfl : i = L.length := by omega
    simp -implicitDefEqProofs [c18_l5, c18_k4]
theorem s_Num (c : Int) : Dn.Call Γ cx .val 27 [errV c] St.empty fun v _ => v = I c := by
  refine Dn.Call.body (fc := c27) rfl ?_
  by_cases h : c = 0
  · subst h
    simp -implicitDefEqProofs [errV, c27, c27_k4, c27_k3, eqV, V.isNil, Opd.isC]
  · simp -implicitDefEqProofs [errV, h, c27, c27_k4, c27_k3, c27_k2, c27_k1, c27_k0, eqV, V.isNil, Opd.isC, assertV, unwrapD]

/-! ### stands -/
theorem lv_br {v : V} {rows : List (List D)} (h : LV v rows) : v.borrows = false := by cases h <;> rfl
theorem s_stands {σ : St} {x q : Nat} {k0 k1 : Int} {es : List Ent} {clock : Nat} {M : List Item} (h : Ix σ x q k0 k1 es clock M) {d : V} (hd : LV d (mRows M)) :
    Dn.Call Γ cx .rd 25 [.ref x 0, d] σ fun v _ => v = B true := by
  refine Dn.Call.body (fc := c25) rfl ?_
  have hn := h.pl.n
  have hld : ∀ σ, lenT σ .slice d = some M.length := fun σ => by rw [hd.len, mRows_len]
  have hbv := fun σ => (hd.dv σ).1
  obtain ⟨y, hy⟩ := (hd.dv σ).2.2.1
  have hyl : LV (.d y) (mRows M) := hy ▸ (hd.dv σ).2.1
  have hbr := lv_br hd
  rw [hy] at hbv
  simp -implicitDefEqProofs [c25, c25_k0]
  refine use_rd' (s_IDs h) fun v s ⟨d1, hv, h1⟩ => ?_
  subst hv
  simp -implicitDefEqProofs
  refine use_val (ds := [.d y]) (by simp only [byVals, hbv]) (s_rIDs hyl h.pl.h (by omega)) fun v s ⟨d2, hv, h2⟩ => ?_
  subst hv
  refine ⟨rfl, (fun h => by simp only [List.any_cons, List.any_nil, hbr] at h; cases h), ?_⟩
  simp -implicitDefEqProofs
  refine use_fn rfl (s_Words h1 h2 (by simp; omega)) rfl ?_
  simp -implicitDefEqProofs
  refine use_rd' (s_ixHashes h) fun v s ⟨d3, hv, h3⟩ => ?_
  subst hv
  simp -implicitDefEqProofs
  refine use_val (ds := [.d y]) (by simp only [byVals, hbv]) (s_rHashes hyl h.pl.h (by omega)) fun v s ⟨d4, hv, h4⟩ => ?_
  subst hv
  refine ⟨rfl, (fun h => by simp only [List.any_cons, List.any_nil, hbr] at h; cases h), ?_⟩
  simp -implicitDefEqProofs
  refine use_fn rfl (s_Hashes h3 h4 (fun t ht => by obtain ⟨p, hp, rfl⟩ := List.mem_map.1 ht; exact h.pl.h p hp) (by simp; omega)) rfl ?_
  simp -implicitDefEqProofs
  refine use_rd (s_ixLen h) ?_
  simp -implicitDefEqProofs [hld]
  exact ⟨fun i hi => rfl, fun t k ht => ht⟩

open Sip

/-! ### what acts make -/
abbrev Act := Bool × List UInt8
def actRow (a : Act) : List D := .bool a.1 :: hashD a.2
def aRows (l : List Act) : List (List D) := l.map actRow
theorem aRows_len (l : List Act) : (aRows l).length = l.length := by simp [aRows]
theorem aRows_at {l : List Act} {i : Nat} {a : Act} (h : l[i]? = some a) : (aRows l)[i]? = some (actRow a) := by simp [aRows, h]
theorem actRow_len {a : Act} (h : a.2.length = 32) : (actRow a).length = 33 := by simp [actRow, hashD_len, h]
def stepM (K0 K1 : W64) (M : List Item) (a : Act) : List Item := if a.1 then del M a.2 else (putI (short K0 K1 a.2) a.2 M).1
def playM (K0 K1 : W64) (l : List Act) (M : List Item) : List Item := l.foldl (stepM K0 K1) M
theorem playM_snoc (K0 K1 : W64) (l : List Act) (M : List Item) (a : Act) : playM K0 K1 (l ++ [a]) M = stepM K0 K1 (playM K0 K1 l M) a := by simp [playM]
theorem put_has {K0 K1 : W64} {M : List Item} (h : Plain M) (ho : Hon K0 K1 M) {t : List UInt8} (ht : t.length = 32) (hn : M.length ≤ 89) (h0 : (putI (short K0 K1 t) t M).2 = 0) : hasM K0 K1 (putI (short K0 K1 t) t M).1 t = true := by
  have hp := (putI_plain h ho ht hn).1
  refine (hasM_iff hp).2 ?_
  simp only [putI] at h0 ⊢
  split at h0
  · by_cases hu : ‹List UInt8› = t <;> simp [hu] at h0
  · rename_i hg
    simp only [hg]
    exact (ins_perm _ t M).mem_iff.2 (by simp)

structure PlayS (σ s : St) (x q n : Nat) (K0 K1 : W64) (d : D) (M : List Item) : Prop where
  ix : ∃ es clock, Ix s x q (un K0) (un K1) es clock M
  ho : Hon K0 K1 M
  d : LV (.d d) (mRows M)
  fr : Fr [q] σ s
  tk : s.toks = σ.toks
  salt : s.objs[n]? = some (.cells [Wd K0, Wd K1])
def InvPlay (σ : St) (x q n : Nat) (K0 K1 : W64) (ds : D) (S : List Act) (M0 : List Item) (m : Nat) (e : Env) (s : St) : Prop := ∃ (i : Nat) (d : D), e = [(0, .ref x 0), (1, .d d), (6, .ref n 0), (17, .d ds), (18, I S.length), (19, I i)] ∧ i ≤ S.length ∧ m = S.length - i ∧ (playM K0 K1 (S.take i) M0).length ≤ M0.length + i ∧ PlayS σ s x q n K0 K1 d (playM K0 K1 (S.take i) M0)

structure PlayP (σ : St) (x q : Nat) (K0 K1 : W64) (M : List Item) (v : V) (s : St) : Prop where
  r : ∃ d, v = .tup [.d d, B true] ∧ LV (.d d) (mRows M)
  ix : ∃ es clock, Ix s x q (un K0) (un K1) es clock M
  ho : Hon K0 K1 M
  fr : Fr [q] σ s
  tk : s.toks = σ.toks

abbrev playQ (σ : St) (x q n : Nat) (K0 K1 : W64) (ds : D) (S : List Act) (M0 : List Item) (i : Nat) : PostC := blkQ 1
   (thenQ (Dn.Call Γ cx) cx
     (C.ops [0, 1, 6, 17, 18, 19] [Ins.p (some 69) (POp.bin BinOp.add Ty.int [] (Opd.t 19) (Opd.c (D.int IntKind.i64 1))), Ins.p (some 19) (POp.move (Opd.t 69))])
     (loopQ (InvPlay σ x q n K0 K1 ds S M0) (S.length - i) [0, 1, 6, 17, 18, 19]
       (blkQ 0 (thenQ (Dn.Call Γ cx) cx c9_k0 (endQ Mode.raw σ [Res.tmp 8, Res.tmp 9] (PlayP σ x q K0 K1 (playM K0 K1 S M0)))))))

theorem errV_bv (c : Int) (s : St) : V.byVal s (errV c) = some (errV c) := by
  unfold errV
  split <;> rfl
theorem errV_br (c : Int) : (errV c).borrows = false := by
  unfold errV
  split <;> rfl
theorem play_out {σ s : St} {x q n r : Nat} {K0 K1 : W64} {d ds : D} {S : List Act} {M0 M : List Item} {i : Nat} {t : List UInt8} (hP : PlayS σ s x q n K0 K1 d M) (ht : t.length = 32) (oc : s.objs[r]? = some (.cells (B true :: byV t))) (hn : M.length ≤ 89) (hqn : q ≠ n) (hi : i < S.length) (hS : S.length ≤ 89)
    (hM' : playM K0 K1 (S.take (i + 1)) M0 = del M t) (hl : (del M t).length ≤ M0.length + (i + 1)) :
    wcode (Dn.Call Γ cx) cx c9_k11 [(0, .ref x 0), (1, .d d), (6, .ref n 0), (11, .ref r 0), (17, .d ds), (18, I S.length), (19, I i)] s (playQ σ x q n K0 K1 ds S M0 i) := by
  obtain ⟨es, clock, hix⟩ := hP.ix
  simp -implicitDefEqProofs [c9_k11, oc, c9_k10, c9_k9, byV_len, ht, byV_take ht, ofD_byV]
  refine use_val rfl (s_rRemove hP.d hix.pl.h (by omega) ht) fun v _ ⟨d', hv, hd'⟩ => ?_
  subst hv
  refine ⟨rfl, (fun h => by cases h), ?_⟩
  rw [del_len hix.pl hP.ho]
  simp -implicitDefEqProofs [c9_k8, c9_k7, oc, byV_len, ht, byV_take ht, ofD_byV]
  refine use_raw (s_ixRemove hix hP.ho ht) fun v s2 ⟨hv, ⟨es', clock', hix2⟩, hfr2, htk2⟩ => ?_
  subst hv
  have hs2 : PlayS σ s2 x q n K0 K1 d' (del M t) := ⟨⟨es', clock', hix2⟩, hP.ho.del t, hd', hP.fr.trans hfr2, by rw [htk2, hP.tk], hfr2.get hP.salt (by simp [Ne.symm hqn])⟩
  have hbb : ∀ b : Bool, (!b == b) = false := by decide
  generalize hasM K0 K1 M t = b
  cases b
  all_goals simp -implicitDefEqProofs [c9_k6, wrap_i64 (n := (i : Int) + 1) (by omega) (by omega)]
  all_goals exact ⟨S.length - (i + 1), by omega, i + 1, d', rfl, by omega, rfl, by rw [hM']; exact hl, by rw [hM']; exact hs2⟩

theorem play_in {σ s : St} {x q n r : Nat} {K0 K1 : W64} {d ds : D} {S : List Act} {M0 M : List Item} {i : Nat} {t : List UInt8} (hP : PlayS σ s x q n K0 K1 d M) (ht : t.length = 32) (oc : s.objs[r]? = some (.cells (B false :: byV t))) (hn : M.length ≤ 89) (hqn : q ≠ n) (hqr : q ≠ r) (hi : i < S.length) (hS : S.length ≤ 89)
    (hM' : playM K0 K1 (S.take (i + 1)) M0 = (putI (short K0 K1 t) t M).1) (hl : M.length ≤ M0.length + i) :
    wcode (Dn.Call Γ cx) cx c9_k11 [(0, .ref x 0), (1, .d d), (6, .ref n 0), (11, .ref r 0), (17, .d ds), (18, I S.length), (19, I i)] s (playQ σ x q n K0 K1 ds S M0 i) := by
  obtain ⟨es, clock, hix⟩ := hP.ix
  simp -implicitDefEqProofs [c9_k11, oc, c9_k10, c9_k5, byV_len, ht, byV_take ht, ofD_byV]
  obtain ⟨p1, p2, p3⟩ := putI_plain hix.pl hP.ho ht hn
  have hhas := put_has hix.pl hP.ho ht hn
  refine use_raw (s_ixPut hix hn ht) fun v s2 ⟨hv, ⟨es', clock', hix2⟩, hfr2, htk2⟩ => ?_
  subst hv
  have oc2 : s2.objs[r]? = some (.cells (B false :: byV t)) := hfr2.get oc (by simp [Ne.symm hqr])
  have salt2 := hfr2.get hP.salt (by simp [Ne.symm hqn])
  simp -implicitDefEqProofs [c9_k4, oc2, salt2, byV_len, ht, byV_take ht, ofD_byV, mkAgg, ofD]
  refine use_val rfl (s_rPut K0 K1 hP.d hix.pl.h (by omega) ht) fun v _ ⟨d', hv, hd'⟩ => ?_
  subst hv
  refine ⟨rfl, (fun h => by cases h), ?_⟩
  have hs2 : PlayS σ s2 x q n K0 K1 d' (putI (short K0 K1 t) t M).1 := ⟨⟨es', clock', hix2⟩, p2, hd', hP.fr.trans hfr2, by rw [htk2, hP.tk], salt2⟩
  generalize (putI (short K0 K1 t) t M).2 = c at *
  simp -implicitDefEqProofs [c9_k3]
  simp -implicitDefEqProofs [c9_k2]
  refine use_fn (ds := [errV c]) (by simp only [byVals, errV_bv]) (s_Num c) (Bool.or_true _) ?_
  have hfin := (⟨S.length - (i + 1), by omega, i + 1, d', rfl, by omega, rfl, by rw [hM']; omega, by rw [hM']; exact hs2⟩ : ∃ m' < S.length - i, InvPlay σ x q n K0 K1 ds S M0 m' [(0, .ref x 0), (1, .d d'), (6, .ref n 0), (17, .d ds), (18, I S.length), (19, I (i + 1 : Nat))] s2)
  have w9 : IntKind.i64.wrap ((i : Int) + 1) = ((i + 1 : Nat) : Int) := by rw [wrap_i64 (by omega) (by omega)]; omega
  by_cases hc : c = 0
  · subst hc
    simp -implicitDefEqProofs [oc2, byV_len, ht, byV_take ht, ofD_byV]
    refine use_rd (s_ixHas hix2 ht) ?_
    rw [hhas rfl]
    simp -implicitDefEqProofs [c9_k1, w9]
    exact hfin
  · simp -implicitDefEqProofs [hc, c9_k1, w9]
    exact hfin

theorem s_play {σ : St} {x q : Nat} {K0 K1 : W64} {es : List Ent} {clock : Nat} {M : List Item} (h : Ix σ x q (un K0) (un K1) es clock M) (ho : Hon K0 K1 M) {d ds : D} (hd : LV (.d d) (mRows M)) {S : List Act} (hs : LV (.d ds) (aRows S)) (hS : ∀ a ∈ S, a.2.length = 32) (hn : M.length + S.length ≤ 89) :
    Dn.Call Γ cx .raw 9 [.ref x 0, .d d, .da [.int .u64 (un K0), .int .u64 (un K1)], .d ds] σ (PlayP σ x q K0 K1 (playM K0 K1 S M)) := by
  refine Dn.Call.body (fc := c9) rfl ?_
  have hld : ∀ σ, lenT σ .slice (.d ds) = some S.length := fun σ => by rw [hs.len, aRows_len]
  simp -implicitDefEqProofs [c9, c9_k17, hld, c9_k16]
  refine wloopI (InvPlay σ x q σ.objs.length K0 K1 ds S M) (m := S.length) ⟨0, d, rfl, by omega, rfl, by simp [playM], ⟨es, clock, h.mono ⟨by simp, fun r _ hr => by simp only; rw [List.getElem?_append_left hr]⟩⟩, ho, hd, ⟨by simp, fun r _ hr => by simp only; rw [List.getElem?_append_left hr]⟩, rfl, by simp⟩ ?_
  have hqn : q ≠ σ.objs.length := by have := (List.getElem?_eq_some_iff.1 h.m).1; omega
  generalize σ.objs.length = n at *
  rintro m e s ⟨i, d, rfl, hi, rfl, hml, hP⟩
  by_cases hil : i < S.length
  rotate_left
  · obtain rfl : i = S.length := by omega
    rw [List.take_length] at hP
    obtain ⟨es, clock, hix⟩ := hP.ix
    simp -implicitDefEqProofs [c9_l15, c9_k14, c9_k0]
    refine use_rd (s_stands hix hP.d) ?_
    simp -implicitDefEqProofs
    exact ⟨⟨d, rfl, hP.d⟩, hP.ix, hP.ho, hP.fr, hP.tk⟩
  have hii : (i : Int) < S.length := by omega
  obtain ⟨a, ha⟩ : ∃ a, S[i]? = some a := ⟨_, List.getElem?_eq_getElem hil⟩
  have ha32 := hS a (List.mem_of_getElem? ha)
  have har := actRow_len ha32
  have hia := fun σ => hs.iaddr σ (k := .i64) (sz := 33) (i := i) (aRows_at ha) har
  have htk : List.take 33 (actRow a) = actRow a := List.take_of_length_le (by omega)
  have hta : S.take (i + 1) = S.take i ++ [a] := by rw [List.take_add_one, ha]; rfl
  have hstep : playM K0 K1 (S.take (i + 1)) M = stepM K0 K1 (playM K0 K1 (S.take i) M) a := by rw [hta, playM_snoc]
  obtain ⟨es, clock, hix⟩ := hP.ix
  simp -implicitDefEqProofs [c9_l15, c9_k14, hii, c9_k13, c9_k12, hia, har, htk]
  obtain ⟨s1, hs1⟩ : ∃ s' : St, (⟨s.objs ++ [.cells ((actRow a).map V.d)], s.toks⟩ : St) = s' := ⟨_, rfl⟩
  rw [hs1]
  have f1 : Fr [] s s1 := ⟨by rw [← hs1]; simp, fun r _ hr => by rw [← hs1]; simp only; rw [List.getElem?_append_left hr]⟩
  have oc : s1.objs[s.objs.length]? = some (.cells (B a.1 :: byV a.2)) := by
    rw [← hs1]
    have : (actRow a).map V.d = B a.1 :: byV a.2 := by simp [actRow, hashD_byV]
    simp [this]
  have hP1 : PlayS σ s1 x q n K0 K1 d (playM K0 K1 (S.take i) M) := ⟨⟨es, clock, hix.mono f1⟩, hP.ho, hP.d, hP.fr.trans (f1.mono (by simp)), by rw [← hs1]; exact hP.tk, f1.get hP.salt (by simp)⟩
  have hqr : q ≠ s.objs.length := by have := (List.getElem?_eq_some_iff.1 hix.m).1; omega
  clear hs1
  rcases hout : a.1 with _ | _
  · rw [hout] at oc
    exact play_in hP1 ha32 oc (by omega) hqn hqr hil (by omega) (by rw [hstep, stepM, hout]; rfl) hml
  · rw [hout] at oc
    exact play_out hP1 ha32 oc (by omega) hqn hil (by omega) (by rw [hstep, stepM, hout]; rfl) (by have := List.length_filter_le (fun p : Item => decide (p.2 ≠ a.2)) (playM K0 K1 (S.take i) M); simp only [del]; omega)
end Go.Proofs.Ytmcojkkpanijjaa.T
