import Derived.Test.YtmlkdfjojoophaaFw30
import Derived.WideShapes
import Derived.OpenShut
import Derived.Deep.Slices
import Derived.Below
/- A region that draws its order, in the order of the text. -/
namespace Go.Dn
set_option linter.unusedVariables false
set_option linter.unusedSimpArgs false

variable {K : CallP} {cx : Cx} {n0 : Nat} {ks : List Nat}

theorem put_ext {e e' : Env} (h : ∀ s, e.get s = e'.get s) (d : Option Nat) (v : V) : ∀ s, (putE e d v).get s = (putE e' d v).get s := fun s => by
 cases d with
 | none => exact h s
 | some t => simp only [putE, Env.get_set, h s]

theorem wtx_ext {Q : Env → St → Prop} (hq : Ext Q) : ∀ (l : List DOp), Ext fun e σ => wtx K cx n0 ks l e σ Q
 | [] => hq
 | d :: r => fun e e' σ he h => by
  have ih := wtx_ext hq r
  change wtx K cx n0 ks (d :: r) e σ Q at h
  show wtx K cx n0 ks (d :: r) e' σ Q
  simp only [wtx] at h ⊢
  exact (h.slots (fun s _ => he s) (fun s _ => he s)).mono fun v s hv => ih _ _ _ (put_ext he d.ins.dst v) hv

theorem one_simple {d : DOp} (h : d.one = true) : d.ins.simple = true := by
 unfold DOp.one at h
 generalize d.ins = i at *
 cases i <;> first | rfl | cases h

theorem adm_wdop {d : DOp} (hk : d.one = true) {e : Env} {σ : St} {Q : Env → St → Prop} {cx' : Cx} (h : Adm K cx n0 ks d e σ fun v s => Q (putE e d.ins.dst v) s) : wdop K cx' n0 d e σ Q := by
 replace h := h.2
 rw [wdop_eq]
 have hsim := one_simple hk
 have go : gsel d.guard e = some true → dgo K cx' n0 d e σ Q := fun hg => by
  unfold Adm0 at h
  split at h
  ·unfold AdmN at h
   rw [hg] at h
   simp only at h
   unfold dgo
   generalize d.ins = i at *
   cases i with
   | p dst op =>
    simp only [nGo] at h
    simp only
    split at h
    ·rename_i v hv; first | (rw [hv]; exact h) | exact h
    ·exact h.elim
   | call dst f args =>
    simp only [nGo] at h
    simp only [wone]
    refine .inl ⟨cx.mode f, ?_⟩
    cases hm : cx.mode f with
    | raw => simp only [hm] at h
    | rnd => simp only [hm] at h
    | val =>
     simp only [hm] at h
     simp only [callM]
     split at h
     ·rename_i ds hds
      rw [hds]
      obtain ⟨Q', a, b, c⟩ := h
      exact ⟨Q', a, c⟩
     ·exact h.elim
    | rd =>
     simp only [hm] at h
     obtain ⟨Q', a, b, c⟩ := h σ (Agr.refl _ _)
     exact ⟨Q', a, c⟩
   | _ => exact h.elim
  ·unfold AdmX at h
   rw [hg] at h
   simp only at h
   unfold dgo
   generalize d.ins = i at *
   cases i with
   | e dst op =>
    simp only [xGo] at h
    refine h.imp (fun h => ?_) (fun h => ?_)
    ·split
     ·rename_i v s hv; rw [hv] at h; exact h.2
     ·rename_i hv; rw [hv] at h; exact h
    ·split
     ·rename_i v s hv; rw [hv] at h; exact h.2
     ·rename_i hv; rw [hv] at h; exact h
   | call dst f args => simp only [wone]; exact xCall.callK h _
   | callv dst f args =>
    simp only [xGo] at h
    simp only [wone]
    split
    ·rename_i g first caps hf; rw [hf] at h; exact xCall.callK h _
    ·rename_i r hf; rw [hf] at h; exact h.elim
    ·rename_i hn hn2
     split at h
     ·rename_i g first caps hf; exact (hn _ _ _ hf).elim
     ·exact h
   | _ => exact h.elim
 have no : gsel d.guard e = some false → Q (goneOne d.ins e) σ := fun hg => by
  rw [goneOne_simple hsim]
  unfold Adm0 at h
  split at h
  ·unfold AdmN at h; rw [hg] at h; exact h
  ·unfold AdmX at h; rw [hg] at h; exact h
 have nn : gsel d.guard e ≠ none := fun hg => by
  unfold Adm0 at h
  split at h
  ·unfold AdmN at h; rw [hg] at h; exact h
  ·unfold AdmX at h; rw [hg] at h; exact h
 unfold gdo
 split
 ·rename_i hg; exact go (by rw [hg]; rfl)
 ·rename_i s want hg
  rw [hg] at go no nn
  simp only [gsel] at go no nn
  split
  ·rename_i b hb
   rw [hb] at go no
   simp only at go no
   split
   ·rename_i hbw; exact go (by simp [hbw])
   ·rename_i hbw; exact no (by simp [hbw])
  ·rename_i hb
   rw [hb] at no
   exact no rfl
  ·rename_i h1 h2
   exfalso
   apply nn
   split
   ·rename_i b hb; exact (h1 _ hb).elim
   ·rename_i hb; exact (h2 hb).elim
   ·rfl

def sel (l : List DOp) (is : List Nat) : List DOp := is.filterMap fun i => l[i]?
def remOf (n : Nat) (S : List Nat) : List Nat := (List.range n).filter fun i => !S.contains i

def Down (l : List DOp) (S : List Nat) : Prop := ∀ j ∈ S, ∀ y, l[j]? = some y → ∀ a ∈ y.after, a ∈ S

theorem closeT_spec {l : List DOp} {S : List Nat} (hS : Down l S) : ∀ (r : List DOp) (acc : List (List Nat)), (∀ k, r[k]? = l[acc.length + k]?) → (∀ (j : Nat) (y : DOp), j < acc.length → l[j]? = some y → (∀ a ∈ y.after, a ∈ S) → ∀ i ∈ acc.getD j [], i ∈ S) →
  ∀ (j : Nat) (y : DOp), l[j]? = some y → (∀ a ∈ y.after, a ∈ S) → ∀ i ∈ (closeT r acc).getD j [], i ∈ S
 | [], acc, hr, hacc, j, y, hj, ha => by
  have hlt : j < acc.length := by
   rcases Nat.lt_or_ge j acc.length with h | h
   ·exact h
   ·have := hr (j - acc.length)
    rw [show acc.length + (j - acc.length) = j by omega, hj] at this
    simp at this
  exact hacc j y hlt hj ha
 | d :: r, acc, hr, hacc, j, y, hj, ha => by
  simp only [closeT]
  refine closeT_spec hS r _ (fun k => ?_) (fun j' y' hj' hy' ha' => ?_) j y hj ha
  ·have := hr (k + 1)
   simp only [List.getElem?_cons_succ] at this
   rw [this]
   congr 1
   simp
   omega
  ·simp at hj'
   rcases Nat.lt_or_ge j' acc.length with h | h
   ·intro i hi
    rw [List.getD_eq_getElem?_getD, List.getElem?_append_left h, ← List.getD_eq_getElem?_getD] at hi
    exact hacc j' y' h hy' ha' i hi
   ·have hje : j' = acc.length := by omega
    subst hje
    have hd : l[acc.length]? = some d := by
     have := hr 0
     simpa using this.symm
    rw [hy'] at hd
    cases hd
    intro i hi
    rw [List.getD_eq_getElem?_getD, List.getElem?_append_right (Nat.le_refl _)] at hi
    simp only [Nat.sub_self, List.getElem?_cons_zero, Option.getD_some] at hi
    rw [List.mem_eraseDups, List.mem_append, List.mem_flatMap] at hi
    rcases hi with hi | ⟨a, h1, h2⟩
    ·exact ha' i hi
    ·have haS := ha' a h1
     rcases Nat.lt_or_ge a acc.length with h3 | h3
     ·cases hla : l[a]? with
      | none =>
       rw [List.getElem?_eq_none_iff] at hla
       have : acc.length < l.length := (List.getElem?_eq_some_iff.1 hy').1
       omega
      | some ya => exact hacc a ya h3 hla (hS a haS ya hla) i h2
     ·rw [List.getD_eq_getElem?_getD, List.getElem?_eq_none h3] at h2
      simp at h2

structure Chk (md : Nat → Mode) (dr : List Nat) (l : List DOp) : Prop where
 kind : ∀ (j : Nat) (y : DOp), l[j]? = some y → y.one = true
 back : ∀ (j : Nat) (y : DOp), l[j]? = some y → ∀ a ∈ y.after, a < j
 pair : ∀ (i j : Nat) (x y : DOp), i < j → l[i]? = some x → l[j]? = some y → i ∈ (closeT l []).getD j [] ∨ okPair md dr l x y = true
 news : ∀ (i j : Nat) (x y : DOp), i < j → l[i]? = some x → l[j]? = some y → x.isNF l = true ∨ y.isNF l = true → x.ins.dst ≠ y.ins.dst

theorem chk_of {md : Nat → Mode} {dr : List Nat} {l : List DOp} (h : drwOk md dr l = true) : Chk md dr l := by
 unfold drwOk pairsOk at h
 rw [List.all_eq_true] at h
 have get : ∀ (j : Nat) (y : DOp), l[j]? = some y → (y.one && y.after.all (· < j) &&
   (List.range j).all fun i => match l[i]? with
    | some x => (((closeT l []).getD j []).contains i || okPair md dr l x y) && (!(x.isNF l || y.isNF l) || x.ins.dst != y.ins.dst)
    | none => false) = true := fun j y hy => by
  have := h j (List.mem_range.2 (List.getElem?_eq_some_iff.1 hy).1)
  rw [hy] at this
  exact this
 refine ⟨fun j y hy => ?_, fun j y hy a ha => ?_, fun i j x y hij hx hy => ?_, fun i j x y hij hx hy hn => ?_⟩
 ·have := get j y hy
  simp only [Bool.and_eq_true, Bool.or_eq_true] at this
  exact this.1.1
 ·have := get j y hy
  simp only [Bool.and_eq_true, List.all_eq_true] at this
  simpa using this.1.2 a ha
 ·have := get j y hy
  rw [Bool.and_eq_true, List.all_eq_true] at this
  have := this.2 i (List.mem_range.2 hij)
  rw [hx] at this
  simp only [Bool.and_eq_true, Bool.or_eq_true] at this
  rcases this.1 with h1 | h1
  ·exact .inl (by simpa using h1)
  ·exact .inr h1
 ·have := get j y hy
  rw [Bool.and_eq_true, List.all_eq_true] at this
  have := this.2 i (List.mem_range.2 hij)
  rw [hx] at this
  simp only [Bool.and_eq_true] at this
  have h2 := this.2
  rcases hn with hn | hn <;> simpa [hn] using h2

theorem remOf_cons {n i : Nat} {S pre post : List Nat} (h : remOf n S = pre ++ i :: post) : remOf n (i :: S) = pre ++ post := by
 have e : remOf n (i :: S) = (remOf n S).filter (fun k => k != i) := by
  unfold remOf
  rw [List.filter_filter]
  apply List.filter_congr
  intro k _
  simp only [List.contains_cons, Bool.not_or]
  rfl
 have hnd : (remOf n S).Nodup := List.nodup_range.filter _
 rw [e, h]
 rw [h] at hnd
 rw [List.nodup_append] at hnd
 obtain ⟨h1, h2, h3⟩ := hnd
 rw [List.nodup_cons] at h2
 rw [List.filter_append, List.filter_cons]
 simp only [bne_self_eq_false, Bool.false_eq_true, if_false]
 rw [List.filter_eq_self.2 (fun a ha => by simpa using h3 a ha i (by simp)), List.filter_eq_self.2 (fun a ha => by simp; rintro rfl; exact h2.1 ha)]

theorem remOf_lt {n i : Nat} {S pre post : List Nat} (h : remOf n S = pre ++ i :: post) : (∀ a ∈ pre, a < i) ∧ (∀ k, k < i → k ∉ pre → k ∈ S) ∧ i < n ∧ i ∉ S := by
 have hs : (remOf n S).Pairwise (· < ·) := List.pairwise_lt_range.filter _
 have hmem : ∀ k, k ∈ remOf n S ↔ k < n ∧ k ∉ S := fun k => by simp [remOf]
 rw [h] at hs
 rw [List.pairwise_append] at hs
 obtain ⟨h1, h2, h3⟩ := hs
 rw [List.pairwise_cons] at h2
 have hi := (hmem i).1 (by rw [h]; simp)
 refine ⟨fun a ha => h3 a ha i (by simp), fun k hk hp => ?_, hi.1, hi.2⟩
 apply Classical.byContradiction
 intro hS
 have := (hmem k).2 ⟨by omega, hS⟩
 rw [h] at this
 rcases List.mem_append.1 this with h4 | h4
 ·exact hp h4
 ·rcases List.mem_cons.1 h4 with h5 | h5
  ·omega
  ·have := h2.1 k h5; omega

theorem adm0_new (l : List DOp) {d : DOp} {e : Env} {σ : St} {R : V → St → Prop} (h : Adm0 K cx n0 ks d e σ R) : Adm0 K cx n0 ks d e σ fun v s => R v s ∧ (d.isNew = true → v = .ref (n0 + d.al) 0) ∧ (∀ s q, d.faOf l = some (s, q) → ∀ r ∈ dref v, r ∈ dref (e.get q)) := by
 cases hn : d.isNew with
 | false =>
  cases hf : d.faOf l with
  | none => exact h.mono fun v s hv => ⟨hv, (fun h => by cases h), (fun s q h => by cases h)⟩
  | some p =>
   obtain ⟨s, q⟩ := p
   obtain ⟨hg, ⟨k, hi⟩, _⟩ := faOf_inv hf
   have hN : d.isN cx.mode = true := by simp [DOp.isN, hi]
   rw [Adm_N hN] at h ⊢
   unfold AdmN at h ⊢
   rw [hg, hi] at h ⊢
   simp only [gsel, nGo] at h ⊢
   split
   ·rename_i v hv
    rw [hv] at h
    refine ⟨h, (fun h => by cases h), fun s' q' h' r hr => ?_⟩
    cases h'
    simp only [evalP, Opd.ev] at hv
    unfold faddrV at hv
    split at hv
    ·rename_i r0 o0 hq
     cases hv
     rw [hq]
     exact hr
    ·rename_i cs hq
     split at hv
     ·cases hv; simp [dref] at hr
     ·cases hv
    ·cases hv
   ·rename_i hv; rw [hv] at h; exact h
 | true =>
  have hfa : d.faOf l = none := by
   obtain ⟨_, s, op, hi, _⟩ := isNew_inv hn
   simp [DOp.faOf, hi]
  have hE : d.isNew = true ∨ d.isSto [] = true := .inl hn
  rw [Adm0_E hE] at *
  obtain ⟨hg, dst, op, v, s, h1, h2, h3, h4⟩ := h
  exact ⟨hg, dst, op, v, s, h1, h2, h3, h4, fun _ => (new_low hn h1 h2).1, fun s q h => by rw [hfa] at h; cases h⟩

theorem adm_new (l : List DOp) {d : DOp} {e : Env} {σ : St} {R : V → St → Prop} (h : Adm K cx n0 ks d e σ R) : Adm K cx n0 ks d e σ fun v s => R v s ∧ (d.isNew = true → v = .ref (n0 + d.al) 0) ∧ (∀ s q, d.faOf l = some (s, q) → ∀ r ∈ dref v, r ∈ dref (e.get q)) := ⟨h.1, adm0_new l h.2⟩

theorem inv_step {md : Nat → Mode} {dr : List Nat} {l : List DOp} (hc : Chk md dr l) {S : List Nat} {e : Env} (hi : Inv l n0 S e) {i : Nat} {x : DOp} (hx : l[i]? = some x) (hS : i ∉ S) {v : V} (hv : (x.isNew = true → v = .ref (n0 + x.al) 0) ∧ (∀ s q, x.faOf l = some (s, q) → ∀ r ∈ dref v, r ∈ dref (e.get q))) : Inv l n0 (i :: S) (putE e x.ins.dst v) := by
 refine ⟨fun s hs r hr => ?_, fun m hm d hd hn s hs => ?_, fun m hm d hd s q hf => ?_⟩
 ·rw [get_put_ne (hs x (List.mem_of_getElem? hx))] at hr
  exact hi.low s hs r hr
 ·rcases List.mem_cons.1 hm with rfl | hm
  ·rw [hx] at hd
   cases hd
   rw [hv.1 hn]
   rw [hs]
   simp [putE, Env.get_set]
  ·have hne : m ≠ i := fun e => hS (e ▸ hm)
   have hdst : x.ins.dst ≠ some s := by
    rcases Nat.lt_or_ge m i with h | h
    ·have := hc.news m i d x h hd hx (.inl (by simp [DOp.isNF, hn]))
     rw [hs] at this
     exact fun e => this e.symm
    ·have := hc.news i m x d (by omega) hx hd (.inr (by simp [DOp.isNF, hn]))
     rw [hs] at this
     exact this
   rw [get_put_ne hdst]
   exact hi.new m hm d hd hn s hs
 ·obtain ⟨hg, ⟨k, hdi⟩, hq⟩ := faOf_inv hf
  rw [get_put_ne (hq x (List.mem_of_getElem? hx))]
  have hs : d.ins.dst = some s := by rw [hdi]; rfl
  rcases List.mem_cons.1 hm with rfl | hm
  ·rw [hx] at hd
   cases hd
   rw [hs]
   simp only [putE, Env.get_set, if_true]
   exact hv.2 s q hf
  ·have hne : m ≠ i := fun e => hS (e ▸ hm)
   have hnf : d.isNF l = true := by simp [DOp.isNF, hf]
   have hdst : x.ins.dst ≠ some s := by
    rcases Nat.lt_or_ge m i with h | h
    ·have := hc.news m i d x h hd hx (.inl hnf)
     rw [hs] at this
     exact fun e => this e.symm
    ·have := hc.news i m x d (by omega) hx hd (.inr hnf)
     rw [hs] at this
     exact this
   rw [get_put_ne hdst]
   exact hi.fa m hm d hd s q hf

theorem bubble {l : List DOp} (hc : Chk cx.mode cx.dry l) (hks : ∀ s ∈ ks, ∀ d ∈ l, d.ins.dst ≠ some s) (hkeep : ∀ (i j : Nat) (x y : DOp), i < j → l[i]? = some x → l[j]? = some y → i ∉ (closeT l []).getD j [] → KeepP cx.mode cx.dry l ks x y) {Q : Env → St → Prop} (hq : Ext Q) {j : Nat} {y : DOp} (hy : l[j]? = some y) (post : List Nat) : ∀ (pre S : List Nat), remOf l.length S = pre ++ j :: post → Down l S → (∀ a ∈ y.after, a ∈ S) → ∀ (e : Env) (σ : St), Inv l n0 S e →
  wtx K cx n0 ks (sel l (pre ++ j :: post)) e σ Q → Adm K cx n0 ks y e σ fun u s => wtx K cx n0 ks (sel l (pre ++ post)) (putE e y.ins.dst u) s Q
 | [], S, hrem, hdown, haf, e, σ, hi, h => by
  simp only [List.nil_append, sel, List.filterMap_cons, hy, wtx] at h
  exact h
 | i :: pre, S, hrem, hdown, haf, e, σ, hi, h => by
  have hl := remOf_lt (pre := []) (i := i) (post := pre ++ j :: post) (by simpa using hrem)
  have hlj := remOf_lt hrem
  obtain ⟨x, hx⟩ : ∃ x, l[i]? = some x := ⟨l[i]'hl.2.2.1, by simp [hl.2.2.1]⟩
  have hij : i < j := hlj.1 i (by simp)
  have hafx : ∀ a ∈ x.after, a ∈ S := fun a ha => hl.2.1 a (hc.back i x hx a ha) (by simp)
  have hrem' : remOf l.length (i :: S) = pre ++ j :: post := by
   have := remOf_cons (pre := []) (i := i) (post := pre ++ j :: post) (by simpa using hrem)
   simpa using this
  have hdown' : Down l (i :: S) := fun k hk z hz a ha => by
   rcases List.mem_cons.1 hk with rfl | hk
   ·rw [hx] at hz; cases hz; exact List.mem_cons_of_mem _ (hafx a ha)
   ·exact List.mem_cons_of_mem _ (hdown k hk z hz a ha)
  simp only [List.cons_append, sel, List.filterMap_cons, hx, wtx] at h ⊢
  have h1 := (adm_new l h).mono fun v s hv => bubble hc hks hkeep hq hy post pre (i :: S) hrem' hdown' (fun a ha => List.mem_cons_of_mem _ (haf a ha)) _ _ (inv_step hc hi hx hl.2.2.2 hv.2) hv.1
  have hnT : i ∉ (closeT l []).getD j [] := fun hT => hl.2.2.2 (closeT_spec hdown l [] (fun k => by simp) (fun j y hj => by simp at hj) j y hy haf i hT)
  have hok : okPair cx.mode cx.dry l x y = true := (hc.pair i j x y hij hx hy).resolve_left hnT
  exact exchange hok hks (hkeep i j x y hij hx hy hnT) (List.mem_of_getElem? hx) (List.mem_of_getElem? hy) hi hafx haf (wtx_ext hq _) h1

theorem text_any {cx' : Cx} {l : List DOp} (hc : Chk cx.mode cx.dry l) (hks : ∀ s ∈ ks, ∀ d ∈ l, d.ins.dst ≠ some s) (hkeep : ∀ (i j : Nat) (x y : DOp), i < j → l[i]? = some x → l[j]? = some y → i ∉ (closeT l []).getD j [] → KeepP cx.mode cx.dry l ks x y) {Q : Env → St → Prop} (hq : Ext Q) : ∀ (fuel : Nat) (S : List Nat), (remOf l.length S).length = fuel → Down l S → ∀ (e : Env) (σ : St), Inv l n0 S e → wtx K cx n0 ks (sel l (remOf l.length S)) e σ Q → wany K cx' n0 l fuel S e σ Q
 | 0, S, hf, hdown, e, σ, hi, h => by
  have hr : remOf l.length S = [] := List.eq_nil_of_length_eq_zero hf
  rw [hr] at h
  refine ⟨?_, h⟩
  unfold readyD
  rw [List.filter_eq_nil_iff]
  intro k hk hb
  have : k ∈ remOf l.length S := by
   simp only [Bool.and_eq_true] at hb
   exact List.mem_filter.2 ⟨hk, hb.1⟩
  rw [hr] at this
  cases this
 | fuel + 1, S, hf, hdown, e, σ, hi, h => by
  refine ⟨fun hr => ?_, fun i hir => ?_⟩
  ·exfalso
   cases hrem : remOf l.length S with
   | nil => rw [hrem] at hf; simp at hf
   | cons i r =>
    have hl := remOf_lt (pre := []) (i := i) (post := r) (by simpa using hrem)
    obtain ⟨x, hx⟩ : ∃ x, l[i]? = some x := ⟨l[i]'hl.2.2.1, by simp [hl.2.2.1]⟩
    have : i ∈ readyD l S := by
     unfold readyD
     refine List.mem_filter.2 ⟨List.mem_range.2 hl.2.2.1, ?_⟩
     rw [hx]
     simp only [Option.map_some, Option.getD_some, Bool.and_eq_true, List.all_eq_true]
     exact ⟨by simpa using hl.2.2.2, fun a ha => by simpa using hl.2.1 a (hc.back i x hx a ha) (by simp)⟩
    rw [hr] at this
    cases this
  ·unfold readyD at hir
   obtain ⟨h1, h2⟩ := List.mem_filter.1 hir
   have hlt := List.mem_range.1 h1
   have hx : l[i]? = some l[i] := by simp [hlt]
   rw [hx] at h2
   simp only [Option.map_some, Option.getD_some, Bool.and_eq_true, List.all_eq_true] at h2
   obtain ⟨h3, h4⟩ := h2
   have haf : ∀ a ∈ l[i].after, a ∈ S := fun a ha => by simpa using h4 a ha
   have hnS : i ∉ S := by simpa using h3
   have hmem : i ∈ remOf l.length S := List.mem_filter.2 ⟨h1, h3⟩
   obtain ⟨pre, post, hrem⟩ := List.append_of_mem hmem
   refine ⟨l[i], hx, adm_wdop (cx := cx) (ks := ks) (hc.kind i _ hx) ?_⟩
   rw [hrem] at h
   refine (adm_new l (bubble hc hks hkeep hq hx post pre S hrem hdown haf e σ hi h)).mono fun v s hv => ?_
   refine text_any hc hks hkeep hq fuel (i :: S) ?_ ?_ _ _ (inv_step hc hi hx hnS hv.2) ?_
   ·rw [remOf_cons hrem]
    rw [hrem] at hf
    simp at hf ⊢
    omega
   ·intro k hk z hz a ha
    rcases List.mem_cons.1 hk with rfl | hk
    ·rw [hx] at hz; cases hz; exact List.mem_cons_of_mem _ (haf a ha)
    ·exact List.mem_cons_of_mem _ (hdown k hk z hz a ha)
   ·rw [remOf_cons hrem]
    exact hv.1

theorem sel_range (p : List DOp) : ∀ (l : List DOp), (List.range' p.length l.length).filterMap (fun i => (p ++ l)[i]?) = l
 | [] => rfl
 | x :: r => by
  rw [List.length_cons, List.range'_succ, List.filterMap_cons]
  have h1 : (p ++ x :: r)[p.length]? = some x := by simp
  rw [h1]
  have := sel_range (p ++ [x]) r
  simp only [List.length_append, List.length_cons, List.length_nil, List.append_assoc, List.cons_append, List.nil_append] at this
  simp only [this]

theorem sel_all (l : List DOp) : sel l (remOf l.length []) = l := by
 have : remOf l.length [] = List.range l.length := by
  unfold remOf
  exact List.filter_eq_self.2 (fun a _ => by simp)
 rw [this, List.range_eq_range']
 exact sel_range [] l

def keepX (md : Nat → Mode) (dr : List Nat) (l : List DOp) : List Nat :=
 ((List.range l.length).flatMap fun j => (List.range j).flatMap fun i => if ((closeT l []).getD j []).contains i then [] else
  match l[i]?, l[j]? with
  | some x, some y => (if x.isP && !x.isB && y.isXc md && x.near l dr then x.reads.filterMap (rootD l x) else []) ++ (if y.isP && !y.isB && x.isXc md && y.near l dr then y.reads.filterMap (rootD l y) else [])
  | _, _ => []).eraseDups

theorem root_ne {l : List DOp} {x : DOp} {s0 s : Nat} (hs0 : rootD l x s0 = some s) : ∀ d ∈ l, d.ins.dst ≠ some s := fun d hd => by
 unfold rootD at hs0
 split at hs0
 ·rename_i h1
  cases hs0
  exact all_ne h1 d hd
 ·obtain ⟨m, hm, h1⟩ := List.exists_of_findSome?_eq_some hs0
  split at h1
  ·split at h1
   ·rename_i hf
    split at h1
    ·cases h1; exact (faOf_inv hf).2.2 d hd
    ·cases h1
   ·cases h1
  ·cases h1

theorem keepX_mem {md : Nat → Mode} {dr : List Nat} {l : List DOp} {s : Nat} : s ∈ keepX md dr l ↔ ∃ i j x y, i < j ∧ l[i]? = some x ∧ l[j]? = some y ∧ i ∉ (closeT l []).getD j [] ∧
  ((x.isP = true ∧ x.isB = false ∧ y.isXc md = true ∧ x.near l dr = true ∧ ∃ s0 ∈ x.reads, rootD l x s0 = some s) ∨ (y.isP = true ∧ y.isB = false ∧ x.isXc md = true ∧ y.near l dr = true ∧ ∃ s0 ∈ y.reads, rootD l y s0 = some s)) := by
 unfold keepX
 rw [List.mem_eraseDups, List.mem_flatMap]
 constructor
 ·rintro ⟨j, hj, h⟩
  obtain ⟨i, hi, h⟩ := List.mem_flatMap.1 h
  rw [List.mem_range] at hi hj
  split at h
  ·cases h
  ·rename_i hT
   split at h
   ·rename_i x y hx hy
    refine ⟨i, j, x, y, hi, hx, hy, by simpa using hT, ?_⟩
    rcases List.mem_append.1 h with h | h
    ·split at h
     ·rename_i hc
      simp only [Bool.and_eq_true, Bool.not_eq_true'] at hc
      obtain ⟨s0, h1, h2⟩ := List.mem_filterMap.1 h
      exact .inl ⟨hc.1.1.1, hc.1.1.2, hc.1.2, hc.2, s0, h1, h2⟩
     ·cases h
    ·split at h
     ·rename_i hc
      simp only [Bool.and_eq_true, Bool.not_eq_true'] at hc
      obtain ⟨s0, h1, h2⟩ := List.mem_filterMap.1 h
      exact .inr ⟨hc.1.1.1, hc.1.1.2, hc.1.2, hc.2, s0, h1, h2⟩
     ·cases h
   ·cases h
 ·rintro ⟨i, j, x, y, hij, hx, hy, hT, h⟩
  refine ⟨j, List.mem_range.2 (List.getElem?_eq_some_iff.1 hy).1, List.mem_flatMap.2 ⟨i, List.mem_range.2 hij, ?_⟩⟩
  rw [if_neg (by simpa using hT), hx, hy]
  simp only
  rcases h with ⟨h1, h2, h3, h4, s0, h5, h6⟩ | ⟨h1, h2, h3, h4, s0, h5, h6⟩
  ·exact List.mem_append_left _ (by rw [if_pos (by simp [h1, h2, h3, h4])]; exact List.mem_filterMap.2 ⟨s0, h5, h6⟩)
  ·exact List.mem_append_right _ (by rw [if_pos (by simp [h1, h2, h3, h4])]; exact List.mem_filterMap.2 ⟨s0, h5, h6⟩)

theorem wdrwK {cx' : Cx} {ks kk : List Nat} {na : Nat} {l : List DOp} (hC : drwOk cx.mode cx.dry l = true) (hks : ∀ s ∈ kk, ∀ d ∈ l, d.ins.dst ≠ some s)
  (hkeep : ∀ (i j : Nat) (x y : DOp), i < j → l[i]? = some x → l[j]? = some y → i ∉ (closeT l []).getD j [] → KeepP cx.mode cx.dry l kk x y) {e : Env} {σ : St} {Q : PostC} (h : wtx K cx σ.objs.length kk l e (σ.room na) fun e' σ' => Q .normal (e'.pick ks) σ') : wcode K cx' (.drw ks na l) e σ Q := by
 simp only [wcode]
 intro hok
 have hc := chk_of hC
 have hl : (remOf l.length []).length = l.length := by
  have : remOf l.length [] = List.range l.length := by
   unfold remOf
   exact List.filter_eq_self.2 (fun a _ => by simp)
  rw [this, List.length_range]
 refine text_any (ks := kk) hc hks hkeep (fun e e' σ he hq => ?_) l.length [] hl (fun j hj => by cases hj) e _ ⟨fun s _ r hr => hok s r hr, (fun m hm => by cases hm), (fun m hm => by cases hm)⟩ (by rw [sel_all]; exact h)
 have : e.pick ks = e'.pick ks := by
  unfold Env.pick
  exact List.map_congr_left fun k _ => by rw [he k]
 rw [← this]
 exact hq

theorem wdrw {cx' : Cx} {ks : List Nat} {na : Nat} {l : List DOp} (hC : drwOk cx.mode cx.dry l = true) {e : Env} {σ : St} {Q : PostC} (h : wtx K cx σ.objs.length (keepOf cx.dry l) l e (σ.room na) fun e' σ' => Q .normal (e'.pick ks) σ') : wcode K cx' (.drw ks na l) e σ Q := by
 refine wdrwK hC (fun s hs d hd => ?_) (fun i j x y hij hx hy hT => ⟨fun h1 h2 _ h3 s hs q hq => ?_, fun h1 h2 _ h3 s hs q hq => ?_⟩) h
 ·unfold keepOf at hs
  obtain ⟨d', hd', hs'⟩ := List.mem_flatMap.1 hs
  obtain ⟨s0, _, hs0⟩ := List.mem_filterMap.1 hs'
  exact root_ne hs0 d hd
 ·exact List.mem_flatMap.2 ⟨x, List.mem_filter.2 ⟨List.mem_of_getElem? hx, by simp [h1, h2, h3]⟩, List.mem_filterMap.2 ⟨s, hs, hq⟩⟩
 ·exact List.mem_flatMap.2 ⟨y, List.mem_filter.2 ⟨List.mem_of_getElem? hy, by simp [h1, h2, h3]⟩, List.mem_filterMap.2 ⟨s, hs, hq⟩⟩

theorem wdrwX {cx' : Cx} {ks : List Nat} {na : Nat} {l : List DOp} (hC : drwOk cx.mode cx.dry l = true) {e : Env} {σ : St} {Q : PostC} (h : wtx K cx σ.objs.length (keepX cx.mode cx.dry l) l e (σ.room na) fun e' σ' => Q .normal (e'.pick ks) σ') : wcode K cx' (.drw ks na l) e σ Q := by
 refine wdrwK hC (fun s hs d hd => ?_) (fun i j x y hij hx hy hT => ⟨fun h1 h2 h3 h4 s hs q hq => ?_, fun h1 h2 h3 h4 s hs q hq => ?_⟩) h
 ·obtain ⟨i, j, x, y, _, _, _, _, h⟩ := keepX_mem.1 hs
  rcases h with ⟨_, _, _, _, s0, _, h⟩ | ⟨_, _, _, _, s0, _, h⟩
  ·exact root_ne h d hd
  ·exact root_ne h d hd
 ·exact keepX_mem.2 ⟨i, j, x, y, hij, hx, hy, hT, .inl ⟨h1, h2, h3, h4, s, hs, hq⟩⟩
 ·exact keepX_mem.2 ⟨i, j, x, y, hij, hx, hy, hT, .inr ⟨h1, h2, h3, h4, s, hs, hq⟩⟩

end Go.Dn

/- Rows: what the arguments are; a law's call. -/
namespace Go.Dn
open Go.Lib Go.RowKit
set_option linter.unusedVariables false
set_option linter.unusedSimpArgs false

variable {P : Program} {w : World} {H : Type} {enc : TypeId × Value → H} {base : Nat} {spare : Nat → Bool} {held : Bool}

theorem row_calls {cx : Cx} (hm : P.follows .mixedOrders = true) {Γ : Nat → Option FnC} (hΓ : ∀ f fc, Γ f = some fc → Nonempty (Fits P cx.globs f fc)) {f : Nat} {vs : List V} {b : Bool}
  (h : Call Γ cx .val f vs St.empty fun v _ => v = .d (.bool b)) {args : Array Value} (hv : VRs (Gh.bare P fun b q => ∃ v, w.cell? ⟨b, q, none⟩ = some v) [] w vs args.toList) (hgl : GlobR cx.globs (Gh.bare P fun b q => ∃ v, w.cell? ⟨b, q, none⟩ = some v) [] w) :
  Calls P f args w fun e w' => e = .returned (.bool b) ∧ Below w.heap.size w w' := by
 have h1 := (call_sound hm hΓ h).2 (Gh.bare P fun b q => ∃ v, w.cell? ⟨b, q, none⟩ = some v) w args rfl hgl (Sim.bare fun b q h => h) hv
 refine (h1 rfl).mono fun e w' h => ?_
 cases e with
 | returned v =>
  obtain ⟨f', x, σ', rfl, hc, hx, hev⟩ := h
  cases hx.inv_bool
  exact ⟨rfl, hev.os, hev.tape, hev.output, hev.size, fun k hk => hev.frame k hk not_mine_empty⟩
 | panicked c => exact h.elim
 | outgrown => exact h.elim

end Go.Dn

/- For those who prove about the small language: calls from bodies, loops from invariants. -/
namespace Go.Dn
set_option linter.unusedVariables false
set_option linter.unusedSimpArgs false

def LeK (K K' : CallP) : Prop := ∀ m f vs σ Q, K m f vs σ Q → K' m f vs σ Q

variable {K K' : CallP} {cx : Cx}

theorem callK0_leK (hk : LeK K K') {f : Nat} {vs : List V} {σ : St} {Q Q' : Post} (hq : ∀ v s, Q v s → Q' v s) (h : callK0 K cx f vs σ Q) : callK0 K' cx f vs σ Q' := by
 obtain ⟨m, h⟩ := h
 refine ⟨m, ?_⟩
 cases m with
 | rnd => exact h.elim
 | raw =>
  obtain ⟨q, h1, h2⟩ := h
  exact ⟨q, hk _ _ _ _ _ h1, fun v s hv => hq _ _ (h2 v s hv)⟩
 | rd =>
  obtain ⟨q, h1, h2⟩ := h
  exact ⟨q, hk _ _ _ _ _ h1, fun v s hv => hq _ _ (h2 v s hv)⟩
 | val =>
  simp only [callM] at *
  split
  ·rename_i ds hds
   rw [hds] at h
   obtain ⟨q, h1, h2⟩ := h
   exact ⟨q, hk _ _ _ _ _ h1, fun v s hv => ⟨(h2 v s hv).1, (h2 v s hv).2.1, hq _ _ (h2 v s hv).2.2⟩⟩
  ·rename_i hds
   rw [hds] at h
   exact h

theorem callK_leK (hk : LeK K K') {f : Nat} {vs : List V} {σ : St} {Q Q' : Post} (hq : ∀ v s, Q v s → Q' v s) (h : callK K cx f vs σ Q) : callK K' cx f vs σ Q' :=
 h.imp (callK0_leK hk hq) fun ⟨vs', σ', ht, h⟩ => ⟨vs', σ', ht, callK0_leK hk hq h⟩

mutual
theorem wins_le (hk : LeK K K') : ∀ (l : List Ins) {e : Env} {σ : St} {Q Q' : Env → St → Prop}, (∀ e s, Q e s → Q' e s) → wins K cx l e σ Q → wins K' cx l e σ Q'
 | [], e, σ, Q, Q', hq, h => by simp only [wins] at *; exact hq _ _ h
 | i :: r, e, σ, Q, Q', hq, h => by
  simp only [wins] at *
  exact wone_le hk i (fun e s => wins_le hk r hq) h
theorem wone_le (hk : LeK K K') : ∀ (i : Ins) {e : Env} {σ : St} {Q Q' : Env → St → Prop}, (∀ e s, Q e s → Q' e s) → wone K cx i e σ Q → wone K' cx i e σ Q'
 | .p dst op, e, σ, Q, Q', hq, h => by
  simp only [wone] at *
  split
  ·rename_i ho
   rw [if_pos ho] at h
   split
   ·rename_i v s hf; rw [hf] at h; exact hq _ _ h
   ·rename_i hf; rw [hf] at h; exact h
  rename_i ho
  rw [if_neg ho] at h
  split
  ·rename_i v hv; rw [hv] at h; exact hq _ _ h
  ·rename_i hv; rw [hv] at h
   simp only at h ⊢
   split
   ·rename_i v s hf; rw [hf] at h; exact hq _ _ h
   ·rename_i hf; rw [hf] at h; exact h
 | .e dst op, e, σ, Q, Q', hq, h => by
  simp only [wone] at *
  refine h.imp (fun h => ?_) (fun h => ?_)
  ·split
   ·rename_i v hv; rw [hv] at h; exact hq _ _ h
   ·rename_i hv; rw [hv] at h; exact h
  ·split
   ·rename_i v hv; rw [hv] at h; exact hq _ _ h
   ·rename_i hv; rw [hv] at h; exact h
 | .call dst f args, e, σ, Q, Q', hq, h => by
  simp only [wone] at *
  exact callK_leK hk (fun v s => hq _ _) h
 | .callv dst f args, e, σ, Q, Q', hq, h => by
  simp only [wone] at *
  split
  ·rename_i g first caps hf; rw [hf] at h; exact callK_leK hk (fun v s => hq _ _) h
  ·rename_i r hf
   rw [hf] at h
   obtain ⟨q, h1, h2⟩ := h
   exact ⟨q, hk _ _ _ _ _ h1, fun v s hv => hq _ _ (h2 v s hv)⟩
  ·rename_i hn hn2
   split at h
   ·rename_i g first caps hf; exact (hn _ _ _ hf).elim
   ·rename_i r hf; exact (hn2 _ hf).elim
   ·exact h
 | .next dst it, e, σ, Q, Q', hq, h => by
  simp only [wone] at *
  exact nextV_mono (fun v s => hq _ _) h
 | .when s want body, e, σ, Q, Q', hq, h => by
  simp only [wone] at *
  split
  ·rename_i b hb
   rw [hb] at h
   simp only at h
   split
   ·rename_i hw; rw [if_pos hw] at h; exact wins_le hk body hq h
   ·rename_i hw; rw [if_neg hw] at h; exact hq _ _ h
  ·rename_i hb; rw [hb] at h; exact hq _ _ h
  ·rename_i h1 h2
   split at h
   ·rename_i b hb; exact (h1 _ hb).elim
   ·rename_i hb; exact (h2 hb).elim
   ·exact h
end

theorem gdo_le {gd : Option (Nat × Bool)} {i : Ins} {e : Env} {σ : St} {a b : Prop} (hab : a → b) {Q Q' : Env → St → Prop} (hq : ∀ e s, Q e s → Q' e s) (h : gdo gd i e σ a Q) : gdo gd i e σ b Q' := by
 unfold gdo at *
 split
 ·exact hab h
 ·rename_i s want
  simp only at h
  split
  ·rename_i b hb
   rw [hb] at h
   simp only at h
   split
   ·rename_i hw; rw [if_pos hw] at h; exact hab h
   ·rename_i hw; rw [if_neg hw] at h; exact hq _ _ h
  ·rename_i hb; rw [hb] at h; exact hq _ _ h
  ·rename_i h1 h2
   split at h
   ·rename_i b hb; exact (h1 _ hb).elim
   ·rename_i hb; exact (h2 hb).elim
   ·exact h

theorem wdop_le (hk : LeK K K') {n0 : Nat} {d : DOp} {e : Env} {σ : St} {Q Q' : Env → St → Prop} (hq : ∀ e s, Q e s → Q' e s) (h : wdop K cx n0 d e σ Q) : wdop K' cx n0 d e σ Q' := by
 rw [wdop_eq] at *
 refine gdo_le (fun h => ?_) hq h
 obtain ⟨gd, i, af, al⟩ := d
 cases i with
 | e dst op =>
  simp only [dgo] at *
  refine h.imp (fun h => ?_) (fun h => ?_)
  ·split
   ·rename_i v s hv; rw [hv] at h; exact hq _ _ h
   ·rename_i hv; rw [hv] at h; exact h
  ·split
   ·rename_i v s hv; rw [hv] at h; exact hq _ _ h
   ·rename_i hv; rw [hv] at h; exact h
 | p dst op =>
  simp only [dgo] at *
  split
  ·rename_i v hv; rw [hv] at h; exact hq _ _ h
  ·rename_i hv; rw [hv] at h; exact h
 | call dst f args => exact wone_le hk _ hq h
 | callv dst f args => exact wone_le hk _ hq h
 | next dst it => exact wone_le hk _ hq h
 | «when» s want body => exact wone_le hk _ hq h

theorem wany_le (hk : LeK K K') {n0 : Nat} {l : List DOp} {Q Q' : Env → St → Prop} (hq : ∀ e s, Q e s → Q' e s) : ∀ (fuel : Nat) (S : List Nat) (e : Env) (σ : St), wany K cx n0 l fuel S e σ Q → wany K' cx n0 l fuel S e σ Q'
 | 0, S, e, σ, h => ⟨h.1, hq _ _ h.2⟩
 | f + 1, S, e, σ, h => ⟨fun hr => hq _ _ (h.1 hr), fun i hi => by
  obtain ⟨o, ho, hw⟩ := h.2 i hi
  exact ⟨o, ho, wdop_le hk (fun e s => wany_le hk hq f (i :: S) e s) hw⟩⟩

theorem wcode_le (hk : LeK K K') : ∀ (c : C) {e : Env} {σ : St} {Q Q' : PostC}, (∀ ex e s, Q ex e s → Q' ex e s) → wcode K cx c e σ Q → wcode K' cx c e σ Q'
 | .skip, e, σ, Q, Q', hq, h => by simp only [wcode] at *; exact hq _ _ _ h
 | .ops ks l, e, σ, Q, Q', hq, h => by simp only [wcode] at *; exact wins_le hk l (fun e s => hq _ _ _) h
 | .drw ks na l, e, σ, Q, Q', hq, h => by simp only [wcode] at *; exact fun ho => wany_le hk (fun e s => hq _ _ _) _ _ _ _ (h ho)
 | .seq a b, e, σ, Q, Q', hq, h => by
  simp only [wcode] at *
  refine wcode_le hk a (fun ex e s h => ?_) h
  cases ex with
  | normal => exact wcode_le hk b hq h
  | exit id => exact hq _ _ _ h
  | ret => exact hq _ _ _ h
 | .cond c a b, e, σ, Q, Q', hq, h => by
  simp only [wcode] at *
  split
  ·rename_i t ht
   rw [ht] at h
   simp only at h
   split
   ·rename_i hb; rw [if_pos hb] at h; exact wcode_le hk a hq h
   ·rename_i hb; rw [if_neg hb] at h; exact wcode_le hk b hq h
  ·rename_i h1
   split at h
   ·rename_i t ht; exact (h1 _ ht).elim
   ·exact h
 | .block id c, e, σ, Q, Q', hq, h => by
  simp only [wcode] at *
  refine wcode_le hk c (fun ex e s h => ?_) h
  cases ex with
  | normal => exact hq _ _ _ h
  | exit j =>
   simp only at *
   split
   ·rename_i hj; rw [if_pos hj] at h; exact hq _ _ _ h
   ·rename_i hj; rw [if_neg hj] at h; exact hq _ _ _ h
  | ret => exact hq _ _ _ h
 | .loop ks c, e, σ, Q, Q', hq, h => by
  simp only [wcode] at *
  intro I hI
  refine h I fun e σ hb => hI e σ (wcode_le hk c (fun ex e s h => ?_) hb)
  cases ex with
  | normal => exact h
  | exit id => exact hq _ _ _ h
  | ret => exact hq _ _ _ h
 | .exit id, e, σ, Q, Q', hq, h => by simp only [wcode] at *; exact hq _ _ _ h
 | .ret, e, σ, Q, Q', hq, h => by simp only [wcode] at *; exact hq _ _ _ h
 | .rangeF ks f ps a b, e, σ, Q, Q', hq, h => by
  simp only [wcode] at *
  split
  ·rename_i g first caps hf
   rw [hf] at h
   obtain ⟨q, h1, h2⟩ := h
   refine ⟨q, hk _ _ _ _ _ h1, fun v s hv => ?_⟩
   have h3 := h2 v s hv
   simp only at h3 ⊢
   cases ho : s.objs[σ.objs.length]? with
   | none => rw [ho] at h3; exact h3.elim
   | some o =>
    rw [ho] at h3
    cases o with
    | loop _ _ _ _ st =>
     cases st with
     | ready => exact hq _ _ _ h3
     | busy => exact h3.elim
     | done x => exact hq _ _ _ h3
    | _ => exact h3.elim
  ·rename_i hn
   split at h
   ·rename_i g first caps hf; exact (hn _ _ _ hf).elim
   ·exact h

theorem roundP_le (hk : LeK K K') {r : Nat} {vs : List V} {σ : St} {Q Q' : Post} (hq : ∀ v s, Q v s → Q' v s) (h : roundP K cx r vs σ Q) : roundP K' cx r vs σ Q' := by
 obtain ⟨e, ps, a, b, h1, h2, h⟩ := h
 refine ⟨e, ps, a, b, h1, h2, wcode_le hk a (fun ex e1 s1 h => ?_) h⟩
 cases ex with
 | exit id => exact h
 | ret => exact h
 | normal =>
  refine ⟨h.1, wcode_le hk b (fun ex e2 s2 h => ?_) h.2⟩
  refine ⟨h.1, ?_⟩
  cases ex with
  | normal => exact hq _ _ h.2
  | exit id => exact hq _ _ h.2
  | ret => exact hq _ _ h.2

theorem bodyP_le (hk : LeK K K') {m : Mode} {fc : FnC} {vs : List V} {σ : St} {Q Q' : Post} (hq : ∀ v s, Q v s → Q' v s) (h : bodyP K cx m fc vs σ Q) : bodyP K' cx m fc vs σ Q' := by
 refine ⟨h.1, wcode_le hk _ (fun ex e s h => ?_) h.2⟩
 cases ex with
 | exit id => exact h
 | normal => obtain ⟨v, a, k, b⟩ := h; exact ⟨v, a, k, hq _ _ b⟩
 | ret => obtain ⟨v, a, k, b⟩ := h; exact ⟨v, a, k, hq _ _ b⟩

theorem stepP_le {Γ : Nat → Option FnC} (hk : LeK K K') {m : Mode} {f : Nat} {vs : List V} {σ : St} {Q Q' : Post} (hq : ∀ v s, Q v s → Q' v s) (h : stepP Γ K cx m f vs σ Q) : stepP Γ K' cx m f vs σ Q' := by
 unfold stepP at *
 cases m with
 | rnd => exact roundP_le hk hq h
 | _ =>
  obtain ⟨fc, h1, h2⟩ := h
  exact ⟨fc, h1, bodyP_le hk hq h2⟩

theorem Call.body {Γ : Nat → Option FnC} {m : Mode} {f : Nat} {fc : FnC} (hf : Γ f = some fc) {vs : List V} {σ : St} {Q : Post} (h : bodyP (Call Γ cx) cx m fc vs σ Q) (hm : m ≠ .rnd := by decide) : Call Γ cx m f vs σ Q := by
 intro K hK
 refine hK m f vs σ Q ?_
 have := bodyP_le (cx := cx) (fun m f vs σ Q (h : Call Γ cx m f vs σ Q) => h K hK) (fun v s h => h) h
 unfold stepP
 cases m with
 | rnd => exact absurd rfl hm
 | _ => exact ⟨fc, hf, this⟩

theorem Call.round {Γ : Nat → Option FnC} {r : Nat} {vs : List V} {σ : St} {Q : Post} (h : roundP (Call Γ cx) cx r vs σ Q) : Call Γ cx .rnd r vs σ Q := by
 intro K hK
 exact hK .rnd r vs σ Q (roundP_le (cx := cx) (fun m f vs σ Q (h : Call Γ cx m f vs σ Q) => h K hK) (fun v s h => h) h)

theorem Call.mono {Γ : Nat → Option FnC} {m : Mode} {f : Nat} {vs : List V} {σ : St} {Q Q' : Post} (hq : ∀ v s, Q v s → Q' v s) (h : Call Γ cx m f vs σ Q) : Call Γ cx m f vs σ Q' := by
 intro K hK
 have := h (fun m f vs σ Q => ∀ Q', (∀ v s, Q v s → Q' v s) → K m f vs σ Q') fun m f vs σ Q hs Q' hq => hK m f vs σ Q' (stepP_le (cx := cx) (fun m f vs σ Q h => h Q fun _ _ h => h) hq hs)
 exact this Q' hq

theorem use_val {Γ : Nat → Option FnC} {f : Nat} {vs ds : List V} {σ : St} (hds : byVals σ vs = some ds) {Q' : Post} (h : Call Γ cx .val f ds St.empty Q') {Q : Post} (hq : ∀ v s, Q' v s → v.pure = true ∧ (vs.any V.borrows = true → v.scalars = true) ∧ Q v σ) :
  callK (Call Γ cx) cx f vs σ Q := by
 refine .inl ⟨.val, ?_⟩
 simp only [callM]
 rw [hds]
 exact ⟨Q', h, hq⟩

theorem use_thaw {Γ : Nat → Option FnC} {f : Nat} {vs ds : List V} {σ σ' : St} (ht : thawV σ vs = some (ds, σ')) (hds : byVals σ' ds = some ds) (hb : ds.any V.borrows = false) {Q' : Post} (h : Call Γ cx .val f ds St.empty Q') {Q : Post} (hq : ∀ v s, Q' v s → v.pure = true ∧ Q v σ') :
  callK (Call Γ cx) cx f vs σ Q := by
 refine .inr ⟨ds, σ', ht, .val, ?_⟩
 simp only [callM]
 rw [hds]
 exact ⟨Q', h, fun v s hv => ⟨(hq v s hv).1, fun hb2 => (by rw [hb] at hb2; cases hb2), (hq v s hv).2⟩⟩

theorem use_fn {Γ : Nat → Option FnC} {f : Nat} {vs ds : List V} {σ : St} (hds : byVals σ vs = some ds) {r : V} (h : Call Γ cx .val f ds St.empty fun v _ => v = r) (hp : (r.pure && (!vs.any V.borrows || r.scalars)) = true) {Q : Post} (hq : Q r σ) :
  callK (Call Γ cx) cx f vs σ Q := by
 simp only [Bool.and_eq_true, Bool.or_eq_true, Bool.not_eq_true'] at hp
 exact use_val hds h fun v s hv => by
  subst hv
  exact ⟨hp.1, fun hb => hp.2.resolve_left (by simp [hb]), hq⟩

theorem use_rd {Γ : Nat → Option FnC} {f : Nat} {vs : List V} {σ : St} {r : V} (h : Call Γ cx .rd f vs σ fun v _ => v = r) {Q : Post} (hq : Q r σ) : callK (Call Γ cx) cx f vs σ Q :=
 .inl ⟨.rd, _, h, fun v s hv => by subst hv; exact hq⟩

theorem use_rd' {Γ : Nat → Option FnC} {f : Nat} {vs : List V} {σ : St} {Q' : Post} (h : Call Γ cx .rd f vs σ Q') {Q : Post} (hq : ∀ v s, Q' v s → Q v σ) : callK (Call Γ cx) cx f vs σ Q :=
 .inl ⟨.rd, _, h, hq⟩

theorem use_raw {Γ : Nat → Option FnC} {f : Nat} {vs : List V} {σ : St} {Q' : Post} (h : Call Γ cx .raw f vs σ Q') {Q : Post} (hq : ∀ v s, Q' v s → Q v s) : callK (Call Γ cx) cx f vs σ Q :=
 .inl ⟨.raw, _, h, hq⟩

theorem wround {ks : List Nat} {c : C} {e : Env} {σ : St} {Q : PostC} (h : wcode K cx c (e.pick ks) σ fun ex e' σ' => match ex with | .normal => wcode K cx (.loop ks c) e' σ' Q | x => Q x e' σ') : wcode K cx (.loop ks c) e σ Q := by
 simp only [wcode] at h ⊢
 intro J hJ
 refine hJ _ _ (wcode_le (fun _ _ _ _ _ h => h) c (fun ex e s h => ?_) h)
 cases ex with
 | normal => exact h J hJ
 | exit id => exact h
 | ret => exact h

theorem wloop {ks : List Nat} {c : C} {e : Env} {σ : St} {Q : PostC} (I : Nat → Env → St → Prop) {m : Nat} (h0 : I m (e.pick ks) σ)
  (hs : ∀ m e σ, I m e σ → wcode K cx c e σ fun ex e' σ' => match ex with | .normal => ∃ m', m' < m ∧ I m' (e'.pick ks) σ' | x => Q x e' σ') : wcode K cx (.loop ks c) e σ Q := by
 simp only [wcode]
 intro J hJ
 have key : ∀ m e σ, I m e σ → J e σ := by
  intro m
  induction m using Nat.strongRecOn with
  | _ m ih =>
   intro e σ hi
   refine hJ e σ (wcode_le (fun _ _ _ _ _ h => h) c (fun ex e s h => ?_) (hs m e σ hi))
   cases ex with
   | normal => obtain ⟨m', h1, h2⟩ := h; exact ih m' h1 _ _ h2
   | exit id => exact h
   | ret => exact h
 exact key m _ _ h0

end Go.Dn

/- Steps, in a form that a simplifier takes without going ahead of itself. -/
namespace Go.Dn
set_option linter.unusedVariables false
set_option linter.unusedSimpArgs false

variable {K : CallP} {cx : Cx}

def thenQ (K : CallP) (cx : Cx) (b : C) (Q : PostC) : PostC := fun ex e' σ' => match ex with
 | .normal => wcode K cx b e' σ' Q
 | x => Q x e' σ'
def blkQ (id : Nat) (Q : PostC) : PostC := fun ex e' σ' => match ex with
 | .exit j => if j = id then Q .normal e' σ' else Q (.exit j) e' σ'
 | x => Q x e' σ'
def opsQ (ks : List Nat) (Q : PostC) : Env → St → Prop := fun e σ => Q .normal (e.pick ks) σ
def contQ (K : CallP) (cx : Cx) (r : List Ins) (e : Env) (dst : Option Nat) (Q : Env → St → Prop) : Post := fun v σ => wins K cx r (putE e dst v) σ Q
def endQ (m : Mode) (σ0 : St) (rs : List Res) (Q : Post) : PostC := fun ex e s => match ex with
 | .exit _ => False
 | _ => ∃ v, retV m σ0.objs.length e s rs = some v ∧ (m = .rd → Keeps σ0 s) ∧ Q v s

theorem body_eq {m : Mode} {fc : FnC} {vs : List V} {σ : St} {Q : Post} : bodyP K cx m fc vs σ Q = (vs.length = fc.nparams ∧ wcode K cx fc.body (initEnv 0 vs ++ globEnv fc.globs) σ (endQ m σ fc.res Q)) := rfl
theorem w_skip {e : Env} {σ : St} {Q : PostC} : wcode K cx .skip e σ Q = Q .normal e σ := rfl
theorem w_ops {ks : List Nat} {l : List Ins} {e : Env} {σ : St} {Q : PostC} : wcode K cx (.ops ks l) e σ Q = wins K cx l e σ (opsQ ks Q) := rfl
theorem w_seq {a b : C} {e : Env} {σ : St} {Q : PostC} : wcode K cx (.seq a b) e σ Q = wcode K cx a e σ (thenQ K cx b Q) := rfl
theorem w_cond {c : Opd} {a b : C} {e : Env} {σ : St} {Q : PostC} : wcode K cx (.cond c a b) e σ Q = (match c.ev e with
 | .d (.bool t) => if t = true then wcode K cx a e σ Q else wcode K cx b e σ Q
 | _ => False) := rfl
theorem w_block {id : Nat} {c : C} {e : Env} {σ : St} {Q : PostC} : wcode K cx (.block id c) e σ Q = wcode K cx c e σ (blkQ id Q) := rfl
theorem w_exit {id : Nat} {e : Env} {σ : St} {Q : PostC} : wcode K cx (.exit id) e σ Q = Q (.exit id) e σ := rfl
theorem w_ret {e : Env} {σ : St} {Q : PostC} : wcode K cx .ret e σ Q = Q .ret e σ := rfl

theorem q_then_n {b : C} {Q : PostC} {e : Env} {σ : St} : thenQ K cx b Q .normal e σ = wcode K cx b e σ Q := rfl
theorem q_then_e {b : C} {Q : PostC} {id : Nat} {e : Env} {σ : St} : thenQ K cx b Q (.exit id) e σ = Q (.exit id) e σ := rfl
theorem q_then_r {b : C} {Q : PostC} {e : Env} {σ : St} : thenQ K cx b Q .ret e σ = Q .ret e σ := rfl
theorem q_blk_n {id : Nat} {Q : PostC} {e : Env} {σ : St} : blkQ id Q .normal e σ = Q .normal e σ := rfl
theorem q_blk_e {id j : Nat} {Q : PostC} {e : Env} {σ : St} : blkQ id Q (.exit j) e σ = if j = id then Q .normal e σ else Q (.exit j) e σ := rfl
theorem q_blk_r {id : Nat} {Q : PostC} {e : Env} {σ : St} : blkQ id Q .ret e σ = Q .ret e σ := rfl
theorem q_ops {ks : List Nat} {Q : PostC} {e : Env} {σ : St} : opsQ ks Q e σ = Q .normal (e.pick ks) σ := rfl
theorem q_cont {r : List Ins} {e : Env} {dst : Option Nat} {Q : Env → St → Prop} {v : V} {σ : St} : contQ K cx r e dst Q v σ = wins K cx r (putE e dst v) σ Q := rfl
theorem q_end_n {m : Mode} {σ0 : St} {rs : List Res} {Q : Post} {e : Env} {σ : St} : endQ m σ0 rs Q .normal e σ = ∃ v, retV m σ0.objs.length e σ rs = some v ∧ (m = .rd → Keeps σ0 σ) ∧ Q v σ := rfl
theorem q_end_r {m : Mode} {σ0 : St} {rs : List Res} {Q : Post} {e : Env} {σ : St} : endQ m σ0 rs Q .ret e σ = ∃ v, retV m σ0.objs.length e σ rs = some v ∧ (m = .rd → Keeps σ0 σ) ∧ Q v σ := rfl
theorem q_end_e {m : Mode} {σ0 : St} {rs : List Res} {Q : Post} {id : Nat} {e : Env} {σ : St} : endQ m σ0 rs Q (.exit id) e σ = False := rfl

theorem i_nil {e : Env} {σ : St} {Q : Env → St → Prop} : wins K cx [] e σ Q = Q e σ := rfl
theorem i_p {dst : Option Nat} {op : POp} {r : List Ins} {e : Env} {σ : St} {Q : Env → St → Prop} : wins K cx (.p dst op :: r) e σ Q = (if isObj cx dst op = true then (match evalB op e σ with
  | some (v, s) => wins K cx r (putE e dst v) s Q
  | none => False)
 else match evalP op e σ with
 | some v => wins K cx r (putE e dst v) σ Q
 | none => match evalF op e σ with
  | some (v, s) => wins K cx r (putE e dst v) s Q
  | none => False) := rfl
theorem i_alloc {dst : Option Nat} {z : List V} {r : List Ins} {e : Env} {σ : St} {Q : Env → St → Prop} : wins K cx (.e dst (.alloc z) :: r) e σ Q = (match evalE (.alloc z) e σ none with
 | some (v, σ') => wins K cx r (putE e dst v) σ' Q
 | none => False) := by
 simp only [wins, wone, evalM, or_false]
 rfl
theorem i_box {dst : Option Nat} {x : Opd} {r : List Ins} {e : Env} {σ : St} {Q : Env → St → Prop} : wins K cx (.e dst (.box x) :: r) e σ Q = (match evalE (.box x) e σ none with
 | some (v, σ') => wins K cx r (putE e dst v) σ' Q
 | none => False) := by
 simp only [wins, wone, evalM, or_false]
 rfl
theorem i_store {dst : Option Nat} {n : Nat} {a x : Opd} {r : List Ins} {e : Env} {σ : St} {Q : Env → St → Prop} : wins K cx (.e dst (.store n a x) :: r) e σ Q = (match evalE (.store n a x) e σ none with
 | some (v, σ') => wins K cx r (putE e dst v) σ' Q
 | none => False) := by
 simp only [wins, wone, evalM, or_false]
 rfl
theorem i_copy {dst : Option Nat} {sz : Nat} {a x : Opd} {r : List Ins} {e : Env} {σ : St} {Q : Env → St → Prop} : wins K cx (.e dst (.copy sz a x) :: r) e σ Q = (match evalE (.copy sz a x) e σ none with
 | some (v, σ') => wins K cx r (putE e dst v) σ' Q
 | none => False) := by
 simp only [wins, wone, evalM, or_false]
 rfl
theorem i_clear {dst : Option Nat} {sz : Nat} {z : List D} {a : Opd} {r : List Ins} {e : Env} {σ : St} {Q : Env → St → Prop} : wins K cx (.e dst (.clear sz z a) :: r) e σ Q = (match evalE (.clear sz z a) e σ none with
 | some (v, σ') => wins K cx r (putE e dst v) σ' Q
 | none => False) := by
 simp only [wins, wone, evalM, or_false]
 rfl
theorem i_app_f {dst : Option Nat} {op : EOp} {r : List Ins} {e : Env} {σ : St} {Q : Env → St → Prop} {v : V} {s : St} (h : evalE op e σ none = some (v, s)) (hq : wins K cx r (putE e dst v) s Q) : wins K cx (.e dst op :: r) e σ Q := by
 simp only [wins, wone]
 left
 rw [h]
 exact hq
theorem i_app_m {dst : Option Nat} {op : EOp} {r : List Ins} {e : Env} {σ : St} {Q : Env → St → Prop} {v : V} {s : St} (h : evalM op e σ none = some (v, s)) (hq : wins K cx r (putE e dst v) s Q) : wins K cx (.e dst op :: r) e σ Q := by
 simp only [wins, wone]
 right
 rw [h]
 exact hq
theorem i_callv {dst : Option Nat} {f : Opd} {args : List Opd} {r : List Ins} {e : Env} {σ : St} {Q : Env → St → Prop} : wins K cx (.callv dst f args :: r) e σ Q = (match f.ev e with
 | .fn (.func g) first caps => callK K cx g (first ++ args.map (Opd.ev e) ++ caps) σ (contQ K cx r e dst Q)
 | .yld q => ∃ Q', K .rnd q (args.map (Opd.ev e)) σ Q' ∧ ∀ v s, Q' v s → contQ K cx r e dst Q v s
 | _ => False) := rfl
theorem i_next {dst : Option Nat} {it : Opd} {r : List Ins} {e : Env} {σ : St} {Q : Env → St → Prop} : wins K cx (.next dst it :: r) e σ Q = nextV (it.ev e) σ (contQ K cx r e dst Q) := rfl
theorem i_makeMap {dst : Option Nat} {r : List Ins} {e : Env} {σ : St} {Q : Env → St → Prop} : wins K cx (.e dst .makeMap :: r) e σ Q = (match evalE .makeMap e σ none with
 | some (v, σ') => wins K cx r (putE e dst v) σ' Q
 | none => False) := by
 simp only [wins, wone, evalM, or_false]
 rfl
theorem i_range {dst : Option Nat} {x : Opd} {r : List Ins} {e : Env} {σ : St} {Q : Env → St → Prop} : wins K cx (.e dst (.range x) :: r) e σ Q = (match evalE (.range x) e σ none with
 | some (v, σ') => wins K cx r (putE e dst v) σ' Q
 | none => False) := by
 simp only [wins, wone, evalM, or_false]
 rfl
theorem i_entry {dst : Option Nat} {x : Opd} {r : List Ins} {e : Env} {σ : St} {Q : Env → St → Prop} : wins K cx (.e dst (.entry x) :: r) e σ Q = (match evalE (.entry x) e σ none with
 | some (v, σ') => wins K cx r (putE e dst v) σ' Q
 | none => False) := by
 simp only [wins, wone, evalM, or_false]
 rfl
theorem i_clone {dst : Option Nat} {x : Opd} {r : List Ins} {e : Env} {σ : St} {Q : Env → St → Prop} : wins K cx (.e dst (.cloneMap x) :: r) e σ Q = (match evalE (.cloneMap x) e σ none with
 | some (v, σ') => wins K cx r (putE e dst v) σ' Q
 | none => False) := by
 simp only [wins, wone, evalM, or_false]
 rfl
theorem i_update {dst : Option Nat} {ka : Bool} {ks : List Lf} {m k x : Opd} {r : List Ins} {e : Env} {σ : St} {Q : Env → St → Prop} : wins K cx (.e dst (.mapUpdate ka ks m k x) :: r) e σ Q = (match evalE (.mapUpdate ka ks m k x) e σ none with
 | some (v, σ') => wins K cx r (putE e dst v) σ' Q
 | none => False) := by
 simp only [wins, wone, evalM, or_false]
 rfl
theorem i_delete {dst : Option Nat} {ka : Bool} {ks : List Lf} {m k : Opd} {r : List Ins} {e : Env} {σ : St} {Q : Env → St → Prop} : wins K cx (.e dst (.mapDelete ka ks m k) :: r) e σ Q = (match evalE (.mapDelete ka ks m k) e σ none with
 | some (v, σ') => wins K cx r (putE e dst v) σ' Q
 | none => False) := by
 simp only [wins, wone, evalM, or_false]
 rfl
theorem i_call {dst : Option Nat} {f : Nat} {args : List Opd} {r : List Ins} {e : Env} {σ : St} {Q : Env → St → Prop} : wins K cx (.call dst f args :: r) e σ Q = callK K cx f (args.map (Opd.ev e)) σ (contQ K cx r e dst Q) := rfl

theorem wins_app {Q : Env → St → Prop} : ∀ (a b : List Ins) (e : Env) (σ : St), wins K cx (a ++ b) e σ Q = wins K cx a e σ fun e' σ' => wins K cx b e' σ' Q
 | [], b, e, σ => rfl
 | i :: a, b, e, σ => by
  simp only [List.cons_append, wins]
  congr 1
  funext e' σ'
  exact wins_app a b e' σ'

theorem i_when {s : Nat} {want : Bool} {body r : List Ins} {e : Env} {σ : St} {Q : Env → St → Prop} : wins K cx (.when s want body :: r) e σ Q = (match e.get s with
 | .d (.bool b) => if b = want then wins K cx (body ++ r) e σ Q else wins K cx r (goneAll body e) σ Q
 | .gone => wins K cx r (goneAll body e) σ Q
 | _ => False) := by
 simp only [wins, wone, wins_app]
 generalize e.get s = x
 cases x <;> first | rfl | (rename_i d; cases d <;> rfl)

def loopQ (I : Nat → Env → St → Prop) (m : Nat) (ks : List Nat) (Q : PostC) : PostC := fun ex e' σ' => match ex with
 | .normal => ∃ m', m' < m ∧ I m' (e'.pick ks) σ'
 | x => Q x e' σ'
theorem q_loop_n {I : Nat → Env → St → Prop} {m : Nat} {ks : List Nat} {Q : PostC} {e : Env} {σ : St} : loopQ I m ks Q .normal e σ = ∃ m', m' < m ∧ I m' (e.pick ks) σ := rfl
theorem q_loop_e {I : Nat → Env → St → Prop} {m : Nat} {ks : List Nat} {Q : PostC} {id : Nat} {e : Env} {σ : St} : loopQ I m ks Q (.exit id) e σ = Q (.exit id) e σ := rfl
theorem q_loop_r {I : Nat → Env → St → Prop} {m : Nat} {ks : List Nat} {Q : PostC} {e : Env} {σ : St} : loopQ I m ks Q .ret e σ = Q .ret e σ := rfl
theorem wloopI {ks : List Nat} {c : C} {e : Env} {σ : St} {Q : PostC} (I : Nat → Env → St → Prop) {m : Nat} (h0 : I m (e.pick ks) σ) (hs : ∀ m e σ, I m e σ → wcode K cx c e σ (loopQ I m ks Q)) : wcode K cx (.loop ks c) e σ Q :=
 wloop I h0 hs

def tcontQ (K : CallP) (cx : Cx) (n0 : Nat) (ks : List Nat) (r : List DOp) (e : Env) (dst : Option Nat) (Q : Env → St → Prop) : Post := fun v s => wtx K cx n0 ks r (putE e dst v) s Q

def callN (K : CallP) (cx : Cx) (n0 : Nat) (ks : List Nat) (e : Env) (f : Nat) (vs : List V) (σ : St) (Q : Post) : Prop :=
 match cx.mode f with
 | .rnd => False
 | .raw => ∃ Q', K .raw f vs σ Q' ∧ (∃ v s, Q' v s) ∧ ∀ v s, Q' v s → Kept ks e σ s ∧ Q v s
 | .val => match byVals σ vs with
  | some ds => ∃ Q', K .val f ds St.empty Q' ∧ (∃ v s, Q' v s) ∧ ∀ v s, Q' v s → v.pure = true ∧ (vs.any V.borrows = true → v.scalars = true) ∧ Q v σ
  | none => False
 | .rd => ∀ σ1, Agr n0 σ σ1 → ∃ Q', K .rd f vs σ1 Q' ∧ (∃ v s, Q' v s) ∧ ∀ v s, Q' v s → Q v σ

theorem t_nil {n0 : Nat} {ks : List Nat} {e : Env} {σ : St} {Q : Env → St → Prop} : wtx K cx n0 ks [] e σ Q = Q e σ := rfl

theorem t_p {n0 : Nat} {ks : List Nat} {gd : Option (Nat × Bool)} {dst : Option Nat} {op : POp} {af : List Nat} {al : Nat} {r : List DOp} {e : Env} {σ : St} {Q : Env → St → Prop} : wtx K cx n0 ks (⟨gd, .p dst op, af, al⟩ :: r) e σ Q = ((∀ s ∈ cx.dry, s ∈ DOp.reads ⟨gd, .p dst op, af, al⟩ → dref (e.get s) = []) ∧ (match gsel gd e with
 | some true => (match evalP op e σ with
  | some v => wtx K cx n0 ks r (putE e dst v) σ Q
  | none => False)
 | some false => wtx K cx n0 ks r (putE e dst .gone) σ Q
 | none => False)) := by
 simp only [wtx, Adm, Dry, DOp.isP, Adm0, true_implies]
 rfl
theorem t_call {n0 : Nat} {ks : List Nat} {gd : Option (Nat × Bool)} {dst : Option Nat} {f : Nat} {args : List Opd} {af : List Nat} {al : Nat} {r : List DOp} {e : Env} {σ : St} {Q : Env → St → Prop} : wtx K cx n0 ks (⟨gd, .call dst f args, af, al⟩ :: r) e σ Q = (match gsel gd e with
 | some true => callN K cx n0 ks e f (args.map (Opd.ev e)) σ (tcontQ K cx n0 ks r e dst Q)
 | some false => wtx K cx n0 ks r (putE e dst .gone) σ Q
 | none => False) := by
 simp only [wtx, Adm, Dry, DOp.isP, Bool.false_eq_true, false_implies, true_and, Adm0, DOp.isN, Ins.dst]
 cases hm : cx.mode f with
 | rnd => simp only [AdmX, xGo, xCall, callN, hm]; rfl
 | raw => simp only [AdmX, xGo, xCall, callN, hm]; rfl
 | val => simp only [AdmN, nGo, callN, hm]; rfl
 | rd => simp only [AdmN, nGo, callN, hm]; rfl
theorem t_alloc {n0 : Nat} {ks : List Nat} {gd : Option (Nat × Bool)} {dst : Option Nat} {z : List V} {af : List Nat} {al : Nat} {r : List DOp} {e : Env} {σ : St} {Q : Env → St → Prop} : wtx K cx n0 ks (⟨gd, .e dst (.alloc z), af, al⟩ :: r) e σ Q = (match gsel gd e with
 | some true => (match evalE (.alloc z) e σ (some (n0 + al)) with
  | some (v, s) => wtx K cx n0 ks r (putE e dst v) s Q
  | none => False)
 | some false => wtx K cx n0 ks r (putE e dst .gone) σ Q
 | none => False) := by
 simp only [wtx, Adm, Dry, DOp.isP, Bool.false_eq_true, false_implies, true_and, Adm0, DOp.isN, AdmX, xGo, evalM, or_false, Ins.dst, EOp.isStore, Bool.false_eq_true, false_implies, true_and]
 rfl
theorem t_box {n0 : Nat} {ks : List Nat} {gd : Option (Nat × Bool)} {dst : Option Nat} {x : Opd} {af : List Nat} {al : Nat} {r : List DOp} {e : Env} {σ : St} {Q : Env → St → Prop} : wtx K cx n0 ks (⟨gd, .e dst (.box x), af, al⟩ :: r) e σ Q = (match gsel gd e with
 | some true => (match evalE (.box x) e σ (some (n0 + al)) with
  | some (v, s) => wtx K cx n0 ks r (putE e dst v) s Q
  | none => False)
 | some false => wtx K cx n0 ks r (putE e dst .gone) σ Q
 | none => False) := by
 simp only [wtx, Adm, Dry, DOp.isP, Bool.false_eq_true, false_implies, true_and, Adm0, DOp.isN, AdmX, xGo, evalM, or_false, Ins.dst, EOp.isStore, Bool.false_eq_true, false_implies, true_and]
 rfl
theorem kept_nil {e : Env} {σ s : St} : Kept [] e σ s = True := by simp [Kept]
theorem t_store {n0 : Nat} {ks : List Nat} {gd : Option (Nat × Bool)} {dst : Option Nat} {n : Nat} {a x : Opd} {af : List Nat} {al : Nat} {r : List DOp} {e : Env} {σ : St} {Q : Env → St → Prop} : wtx K cx n0 ks (⟨gd, .e dst (.store n a x), af, al⟩ :: r) e σ Q = (match gsel gd e with
 | some true => (match evalE (.store n a x) e σ (some (n0 + al)) with
  | some (v, s) => Kept ks e σ s ∧ wtx K cx n0 ks r (putE e dst v) s Q
  | none => False)
 | some false => wtx K cx n0 ks r (putE e dst .gone) σ Q
 | none => False) := by
 simp only [wtx, Adm, Dry, DOp.isP, Bool.false_eq_true, false_implies, true_and, Adm0, DOp.isN, AdmX, xGo, evalM, or_false, Ins.dst, EOp.isStore, forall_const]
 rfl
theorem t_copy {n0 : Nat} {ks : List Nat} {gd : Option (Nat × Bool)} {dst : Option Nat} {sz : Nat} {a x : Opd} {af : List Nat} {al : Nat} {r : List DOp} {e : Env} {σ : St} {Q : Env → St → Prop} : wtx K cx n0 ks (⟨gd, .e dst (.copy sz a x), af, al⟩ :: r) e σ Q = (match gsel gd e with
 | some true => (match evalE (.copy sz a x) e σ (some (n0 + al)) with
  | some (v, s) => wtx K cx n0 ks r (putE e dst v) s Q
  | none => False)
 | some false => wtx K cx n0 ks r (putE e dst .gone) σ Q
 | none => False) := by
 simp only [wtx, Adm, Dry, DOp.isP, Bool.false_eq_true, false_implies, true_and, Adm0, DOp.isN, AdmX, xGo, evalM, or_false, Ins.dst, EOp.isStore, Bool.false_eq_true, false_implies, true_and]
 rfl
theorem t_clear {n0 : Nat} {ks : List Nat} {gd : Option (Nat × Bool)} {dst : Option Nat} {sz : Nat} {z : List D} {a : Opd} {af : List Nat} {al : Nat} {r : List DOp} {e : Env} {σ : St} {Q : Env → St → Prop} : wtx K cx n0 ks (⟨gd, .e dst (.clear sz z a), af, al⟩ :: r) e σ Q = (match gsel gd e with
 | some true => (match evalE (.clear sz z a) e σ (some (n0 + al)) with
  | some (v, s) => wtx K cx n0 ks r (putE e dst v) s Q
  | none => False)
 | some false => wtx K cx n0 ks r (putE e dst .gone) σ Q
 | none => False) := by
 simp only [wtx, Adm, Dry, DOp.isP, Bool.false_eq_true, false_implies, true_and, Adm0, DOp.isN, AdmX, xGo, evalM, or_false, Ins.dst, EOp.isStore, Bool.false_eq_true, false_implies, true_and]
 rfl
theorem t_app_f {n0 : Nat} {ks : List Nat} {dst : Option Nat} {op : EOp} {af : List Nat} {al : Nat} {r : List DOp} {e : Env} {σ : St} {Q : Env → St → Prop} {v : V} {s : St} (h : evalE op e σ (some (n0 + al)) = some (v, s)) (hq : wtx K cx n0 ks r (putE e dst v) s Q) (hs : op.isStore = true → Kept ks e σ s := by first | (intro h; cases h; done) | (intro _ t ht; cases ht)) : wtx K cx n0 ks (⟨none, .e dst op, af, al⟩ :: r) e σ Q := by
 simp only [wtx, Adm, Dry, DOp.isP, Bool.false_eq_true, false_implies, true_and, Adm0, DOp.isN, AdmX, gsel, xGo, Ins.dst]
 left
 rw [h]
 exact ⟨hs, hq⟩
theorem t_app_m {n0 : Nat} {ks : List Nat} {dst : Option Nat} {op : EOp} {af : List Nat} {al : Nat} {r : List DOp} {e : Env} {σ : St} {Q : Env → St → Prop} {v : V} {s : St} (h : evalM op e σ (some (n0 + al)) = some (v, s)) (hq : wtx K cx n0 ks r (putE e dst v) s Q) (hs : op.isStore = true → Kept ks e σ s := by first | (intro h; cases h; done) | (intro _ t ht; cases ht)) : wtx K cx n0 ks (⟨none, .e dst op, af, al⟩ :: r) e σ Q := by
 simp only [wtx, Adm, Dry, DOp.isP, Bool.false_eq_true, false_implies, true_and, Adm0, DOp.isN, AdmX, gsel, xGo, Ins.dst]
 right
 rw [h]
 exact ⟨hs, hq⟩
theorem q_tcont {n0 : Nat} {ks : List Nat} {r : List DOp} {e : Env} {dst : Option Nat} {Q : Env → St → Prop} {v : V} {σ : St} : tcontQ K cx n0 ks r e dst Q v σ = wtx K cx n0 ks r (putE e dst v) σ Q := rfl

theorem use_fnN {cx0 : Cx} {Γ : Nat → Option FnC} {n0 : Nat} {ks : List Nat} {e : Env} {f : Nat} (hm : cx.mode f = .val) {vs ds : List V} {σ : St} (hds : byVals σ vs = some ds) {r : V} (h : Call Γ cx0 .val f ds St.empty fun v _ => v = r) (hp : (r.pure && (!vs.any V.borrows || r.scalars)) = true) {Q : Post} (hq : Q r σ) :
  callN (Call Γ cx0) cx n0 ks e f vs σ Q := by
 simp only [Bool.and_eq_true, Bool.or_eq_true, Bool.not_eq_true'] at hp
 unfold callN
 rw [hm]
 simp only
 rw [hds]
 exact ⟨_, h, ⟨r, St.empty, rfl⟩, fun v s hv => by
  subst hv
  exact ⟨hp.1, fun hb => hp.2.resolve_left (by simp [hb]), hq⟩⟩
theorem use_rdN {cx0 : Cx} {Γ : Nat → Option FnC} {n0 : Nat} {ks : List Nat} {e : Env} {f : Nat} (hm : cx.mode f = .rd) {vs : List V} {σ : St} {r : V} (h : ∀ σ1, Agr n0 σ σ1 → Call Γ cx0 .rd f vs σ1 fun v _ => v = r) {Q : Post} (hq : Q r σ) : callN (Call Γ cx0) cx n0 ks e f vs σ Q := by
 unfold callN
 rw [hm]
 exact fun σ1 h1 => ⟨_, h σ1 h1, ⟨r, St.empty, rfl⟩, fun v s hv => by subst hv; exact hq⟩
theorem use_rawN {cx0 : Cx} {Γ : Nat → Option FnC} {n0 : Nat} {ks : List Nat} {e : Env} {f : Nat} (hm : cx.mode f = .raw) {vs : List V} {σ : St} {Q' : Post} (h : Call Γ cx0 .raw f vs σ Q') (hex : ∃ v s, Q' v s) {Q : Post} (hq : ∀ v s, Q' v s → Kept ks e σ s ∧ Q v s) : callN (Call Γ cx0) cx n0 ks e f vs σ Q := by
 unfold callN
 rw [hm]
 exact ⟨_, h, hex, hq⟩

theorem w_drwD (md : Nat → Mode) (dr kl : List Nat) {ks : List Nat} {na : Nat} {l : List DOp} (hC : (drwOk md dr l && keepOf dr l == kl) = true) {e : Env} {σ : St} {Q : PostC} (h : wtx K { mode := md, dry := dr } σ.objs.length kl l e (σ.room na) (opsQ ks Q)) : wcode K cx (.drw ks na l) e σ Q := by
 simp only [Bool.and_eq_true, beq_iff_eq] at hC
 refine wdrw (cx := { mode := md, dry := dr }) hC.1 ?_
 rw [hC.2]
 exact h
theorem w_drw (md : Nat → Mode) (kl : List Nat) {ks : List Nat} {na : Nat} {l : List DOp} (hC : (drwOk md [] l && keepOf [] l == kl) = true) {e : Env} {σ : St} {Q : PostC} (h : wtx K { mode := md } σ.objs.length kl l e (σ.room na) (opsQ ks Q)) : wcode K cx (.drw ks na l) e σ Q :=
 w_drwD md [] kl hC h

theorem w_drwX (md : Nat → Mode) (kl : List Nat) {ks : List Nat} {na : Nat} {l : List DOp} (hC : (drwOk md [] l && keepX md [] l == kl) = true) {e : Env} {σ : St} {Q : PostC} (h : wtx K { mode := md } σ.objs.length kl l e (σ.room na) (opsQ ks Q)) : wcode K cx (.drw ks na l) e σ Q := by
 simp only [Bool.and_eq_true, beq_iff_eq] at hC
 refine wdrwX (cx := { mode := md }) hC.1 ?_
 rw [hC.2]
 exact h
end Go.Dn

/- Arguments of any data: numbers, strings, arrays, structs, slices of these. -/
namespace Go.Dn
open Go.Lib Go.RowKit
set_option linter.unusedVariables false
set_option linter.unusedSimpArgs false

inductive Lk where
 | int (k : IntKind) | bool | str | list (ls : List Lk)

mutual
def Lk.fits : Lk → D → Prop
 | .int k, d => ∃ n, d = .int k n ∧ k.min ≤ n ∧ n ≤ k.max
 | .bool, d => ∃ b, d = .bool b
 | .str, d => ∃ s, d = .str s ∧ s.length ≤ 9223372036854775807
 | .list ls, d => d = .nils ∨ ∃ rows, d = .list rows ∧ rows.length ≤ 9223372036854775807 ∧ ∀ row ∈ rows, Lks ls row
def Lks : List Lk → List D → Prop
 | [], ds => ds = []
 | k :: ks, ds => ∃ d r, ds = d :: r ∧ k.fits d ∧ Lks ks r
end

variable {P : Program} {w : World} {H : Type} {enc : TypeId × Value → H} {base : Nat} {spare : Nat → Bool} {held : Bool}

theorem Lks.mk : ∀ {a b : List Lk} {x y : List D}, Lks a x → Lks b y → Lks (a ++ b) (x ++ y)
 | [], _, x, y, h, h' => by simp only [Lks] at h; subst h; exact h'
 | k :: a, b, x, y, h, h' => by
  simp only [Lks, List.cons_append] at h ⊢
  obtain ⟨d, r, rfl, h1, h2⟩ := h
  exact ⟨d, r ++ y, rfl, h1, Lks.mk h2 h'⟩

theorem Lks.length : ∀ {a : List Lk} {x : List D}, Lks a x → x.length = a.length
 | [], x, h => by simp only [Lks] at h; subst h; rfl
 | k :: a, x, h => by
  simp only [Lks] at h
  obtain ⟨d, r, rfl, h1, h2⟩ := h
  simp [Lks.length h2]

def leavesKs (P : Program) (f : TypeId → Option (List Lk)) : Nat → List Field → Option (List Lk)
  | _, [] => some []
  | off, x :: r => match f x.type with
    | some l => if x.offset = off ∧ P.cellsOf x.type = l.length then
        (match leavesKs P f (off + l.length) r with
         | some b => some (l ++ b)
         | none => none) else none
    | none => none

def leavesK (P : Program) : Nat → TypeId → Option (List Lk)
 | 0, _ => none
 | n + 1, t => match P.underlying t with
  | some (.int k) => some [.int k]
  | some .bool => some [.bool]
  | some .string => some [.str]
  | some (.slice e) => match leavesK P n e with
   | some l => if P.cellsOf e = l.length ∧ 0 < l.length then some [.list l] else none
   | none => none
  | some (.array len e) => match leavesK P n e with
   | some l => if P.cellsOf e = l.length ∧ P.cellsOf t = len * l.length then some ((List.replicate len l).flatten) else none
   | none => none
  | some (.struct fs) => match leavesKs P (leavesK P n) 0 fs.toList with
   | some l => if P.cellsOf t = l.length then some l else none
   | none => none
  | _ => none

def Data (F : Nat → Nat → Prop) (w : World) (ks : List Lk) (cs : List Value) : Prop := ∃ ds, DRs F w ds cs ∧ Lks ks ds ∧ ∀ v ∈ cs, oneC v = true

theorem Data.append {F : Nat → Nat → Prop} {a b : List Lk} {x y : List Value} (h : Data F w a x) (h' : Data F w b y) : Data F w (a ++ b) (x ++ y) := by
 obtain ⟨d, h1, h2, h3⟩ := h
 obtain ⟨d', h1', h2', h3'⟩ := h'
 exact ⟨d ++ d', h1.append h1', Lks.mk h2 h2', fun v hv => by
  rcases List.mem_append.1 hv with h | h
  ·exact h3 v h
  ·exact h3' v h⟩

theorem Data.nil {F : Nat → Nat → Prop} : Data F w [] [] := ⟨[], trivial, by simp only [Lks], by simp⟩

theorem data_chunks {F : Nat → Nat → Prop} {l : List Lk} : ∀ (n : Nat) (cs : List Value), cs.length = n * l.length → (∀ i, i < n → Data F w l ((cs.drop (i * l.length)).take l.length)) → Data F w ((List.replicate n l).flatten) cs
 | 0, cs, hl, h => by
  have : cs = [] := List.eq_nil_of_length_eq_zero (by simpa using hl)
  subst this
  exact Data.nil
 | n + 1, cs, hl, h => by
  rw [List.replicate_succ, List.flatten_cons]
  have e : cs = cs.take l.length ++ cs.drop l.length := (List.take_append_drop _ _).symm
  rw [e]
  refine Data.append (by simpa using h 0 (by omega)) (data_chunks n _ (by simp [hl, Nat.add_mul]) fun i hi => ?_)
  have := h (i + 1) (by omega)
  rw [List.drop_drop, show l.length + i * l.length = (i + 1) * l.length by rw [Nat.add_mul]; omega]
  exact this

theorem data_fields {F : Nat → Nat → Prop} {lv : TypeId → Option (List Lk)} {cs : List Value} : ∀ (fs : List Field) (off : Nat) (ks : List Lk), leavesKs P lv off fs = some ks → off + ks.length = cs.length →
  (∀ f ∈ fs, ∀ l, lv f.type = some l → Data F w l ((cs.drop f.offset).take (P.cellsOf f.type))) → Data F w ks (cs.drop off)
 | [], off, ks, h, hl, hf => by
  simp [leavesKs] at h
  subst h
  have : cs.drop off = [] := List.eq_nil_of_length_eq_zero (by simp at hl ⊢; omega)
  rw [this]
  exact Data.nil
 | x :: fs, off, ks, h, hl, hf => by
  unfold leavesKs at h
  split at h
  ·rename_i l hlv
   split at h
   ·rename_i hc
    obtain ⟨ho, hcell⟩ := hc
    split at h
    ·rename_i b hb
     cases h
     have e : cs.drop off = (cs.drop off).take l.length ++ cs.drop (off + l.length) := by
      rw [← List.drop_drop]
      exact (List.take_append_drop _ _).symm
     rw [e]
     refine Data.append ?_ (data_fields fs (off + l.length) b hb (by simp at hl; omega) fun f hm => hf f (List.mem_cons_of_mem _ hm))
     have := hf x (by simp) l hlv
     rw [ho, hcell] at this
     exact this
    ·cases h
   ·cases h
  ·cases h

theorem rowsOfs {l : List Lk} {f : Nat → List D} (n : Nat) (i : Nat) (row : List D) (h : ((List.range n).map f)[i]? = some row) : i < n ∧ row = f i := by
 rw [List.getElem?_map] at h
 simp only [Option.map_eq_some_iff] at h
 obtain ⟨a, h1, h2⟩ := h
 obtain ⟨h3, rfl⟩ := List.getElem?_eq_some_iff.1 h1
 simp at h3 h2
 exact ⟨h3, h2.symm⟩

theorem trod_data {F : Nat → Nat → Prop} (hF : ∀ b q v, w.cell? ⟨b, q, none⟩ = some v → F b q) : ∀ (n : Nat) (t : TypeId) (ks : List Lk), leavesK P n t = some ks → ∀ {fuel : Nat} {cs : List Value} {x : DataW H × List MemPlace}, DataW.trod enc P w base spare held fuel t cs = some x → Data F w ks cs
 | 0, t, ks, h, _, _, _, _ => by simp [leavesK] at h
 | n + 1, t, ks, h, fuel, cs, x, ht => by
  unfold leavesK at h
  split at h
  ·rename_i k hu
   cases h
   obtain ⟨m, rfl, _, hw⟩ := DataW.trod_int hu ht
   refine ⟨[.int k m], ⟨.int k m, trivial⟩, ?_, by simp [oneC]⟩
   simp only [Lit.wf, Bool.and_eq_true] at hw
   simp only [Lks]
   refine ⟨_, _, rfl, ?_, rfl⟩
   simp only [Lk.fits]
   exact ⟨m, rfl, by simpa using hw.1, by simpa using hw.2⟩
  ·rename_i hu
   cases h
   obtain ⟨b, rfl, _⟩ := DataW.trod_bool hu ht
   refine ⟨[.bool b], ⟨.bool b, trivial⟩, ?_, by simp [oneC]⟩
   simp only [Lks]
   refine ⟨_, _, rfl, ?_, rfl⟩
   simp only [Lk.fits]
   exact ⟨b, rfl⟩
  ·rename_i hu
   cases h
   obtain ⟨s, rfl, _, hs⟩ := DataW.trod_string hu ht
   have : Value.string s = .string ⟨s.data.toList.toArray⟩ := by cases s; rfl
   refine ⟨[.str s.data.toList], ⟨by rw [this]; exact .str _, trivial⟩, ?_, by simp [oneC]⟩
   simp only [Lks]
   refine ⟨_, _, rfl, ?_, rfl⟩
   simp only [Lk.fits]
   have e1 : s.data.toList.length = s.size := Array.length_toList
   exact ⟨_, rfl, by rw [e1]; exact hs⟩
  ·rename_i e hu
   split at h
   ·rename_i l hl
    obtain ⟨⟨hc, hpos⟩, h⟩ := ite_some h
    cases h
    rcases DataW.trod_slice hu ht with ⟨rfl, _⟩ | ⟨a, len, cap, elems, rest, m, _, rfl, _, hb, hlc, hcm, hlen, hel, _, _⟩
    ·refine ⟨[.nils], ⟨.nils, trivial⟩, ?_, by simp [oneC]⟩
     simp only [Lks]
     refine ⟨_, _, rfl, ?_, rfl⟩
     simp only [Lk.fits]
     exact .inl trivial
    ·have each : ∀ i, ∃ row : List D, i < len → Lks l row ∧ ∀ j d, row[j]? = some d → ∃ v, w.cell? (a.add (i * l.length + j)) = some v ∧ oneC v = true ∧ DR F w d v := by
      intro i
      by_cases hi : i < len
      ·have h1 := hel i hi
       rw [hc] at h1
       have h2 : elems[i]? = some (elems[i]'(by omega)) := by simp [show i < elems.length by omega]
       rw [h2, Option.bind_eq_some_iff] at h1
       obtain ⟨ci, h3, h4⟩ := h1
       obtain ⟨ds, d1, d2, d3⟩ := trod_data hF n e l hl h4
       refine ⟨ds, fun _ => ⟨d2, fun j d hj => ?_⟩⟩
       unfold World.cells? at h3
       split at h3
       ·have hln := mapM_some_length h3
        have hj' : j < ci.length := by
         rw [← d1.length]
         exact (List.getElem?_eq_some_iff.1 hj).1
        have hr : (List.range l.length)[j]? = some j := by
         rw [List.length_range] at hln
         rw [List.getElem?_range (by omega)]
        have h5 := mapM_some_get h3 j j hr
        have h6 : ci[j]? = some ci[j] := by simp [hj']
        rw [h6] at h5
        refine ⟨ci[j], ?_, d3 _ (List.getElem_mem hj'), d1.get j d _ hj h6⟩
        rw [← h5]
        exact congrArg w.cell? (add_add a _ _).symm
       ·cases h3
      ·exact ⟨[], fun h => (hi h).elim⟩
     have hz : ∃ f : Nat → List D, ∀ i, i < len → Lks l (f i) ∧ ∀ j d, (f i)[j]? = some d → ∃ v, w.cell? (a.add (i * l.length + j)) = some v ∧ oneC v = true ∧ DR F w d v :=
      ⟨fun i => (each i).choose, fun i hi => (each i).choose_spec hi⟩
     obtain ⟨f, hf⟩ := hz
     have hrl : ((List.range len).map f).length = len := by simp
     refine ⟨[.list ((List.range len).map f)], ⟨?_, trivial⟩, ?_, by simp [oneC]⟩
     ·by_cases h0 : len = 0
      ·subst h0; exact .list0 a cap
      ·have cellAt : ∀ k, k < len * l.length → ∃ v, w.cell? (a.add k) = some v ∧ oneC v = true := by
        intro k hk
        have hkl : k / l.length < len := Nat.div_lt_of_lt_mul (by rw [Nat.mul_comm]; exact hk)
        obtain ⟨g1, g2⟩ := hf _ hkl
        have hm : k % l.length < (f (k / l.length)).length := by rw [g1.length]; exact Nat.mod_lt _ hpos
        obtain ⟨v, v1, v2, _⟩ := g2 (k % l.length) _ (by simp [hm]; rfl)
        rw [Nat.mul_comm, Nat.div_add_mod] at v1
        exact ⟨v, v1, v2⟩
       have hsp : a.spot = none := by
        obtain ⟨v, hv, _⟩ := cellAt 0 (Nat.mul_pos (by omega) hpos)
        unfold World.cell? at hv
        split at hv
        ·cases hs : a.spot with
         | none => rfl
         | some s => simp [Addr.add, hs] at hv
        ·cases hv
       obtain ⟨ab, ao, asp⟩ := a
       simp only at hsp
       subst hsp
       simp only [addr_add] at cellAt hf
       have := DR.list (frz := F) (w := w) ((List.range len).map f) ab ao cap l.length (fun k => (w.cell? ⟨ab, ao + k, none⟩).getD undef) (by rw [hrl]; exact hlc)
        (fun i row hr => by obtain ⟨hi, rfl⟩ := rowsOfs (l := l) len i row hr; exact (hf i hi).1.length)
        (fun k hk => by rw [hrl] at hk; obtain ⟨v, hv, _⟩ := cellAt k hk; exact hF _ _ _ hv)
        (fun k hk => by rw [hrl] at hk; obtain ⟨v, hv, _⟩ := cellAt k hk; simp [hv])
        (fun k hk => by rw [hrl] at hk; obtain ⟨v, hv, h1⟩ := cellAt k hk; simp [hv, h1])
        (fun i row j d hr hj => by
         obtain ⟨hi, rfl⟩ := rowsOfs (l := l) len i row hr
         obtain ⟨v, v1, _, v2⟩ := (hf i hi).2 j d hj
         simp [v1, v2])
       rw [hrl] at this
       exact this
     ·simp only [Lks]
      refine ⟨_, _, rfl, ?_, rfl⟩
      simp only [Lk.fits]
      refine .inr ⟨_, rfl, ?_, fun row hr => ?_⟩
      ·rw [hrl]
       unfold maxLen at hcm
       omega
      ·obtain ⟨i, hi⟩ := List.getElem?_of_mem hr
       obtain ⟨hi', rfl⟩ := rowsOfs (l := l) len i row hi
       exact (hf i hi').1
   ·cases h
  ·rename_i len e hu
   split at h
   ·rename_i l hl
    obtain ⟨⟨hc, hct⟩, h⟩ := ite_some h
    cases h
    obtain ⟨xs, m, rfl, _, h1, h2, h3⟩ := DataW.trod_array hu ht
    refine data_chunks len cs (by rw [h1, hct]) fun i hi => ?_
    have := h3 i hi
    rw [hc] at this
    have hx : xs[i]? = some (xs[i]'(by omega)) := by simp [show i < xs.length by omega]
    rw [hx] at this
    exact trod_data hF n e l hl this
   ·cases h
  ·rename_i fs hu
   split at h
   ·rename_i l hl
    obtain ⟨hct, h⟩ := ite_some h
    cases h
    obtain ⟨xs, m, rfl, _, h1, h2, h3⟩ := DataW.trod_struct hu ht
    have := data_fields (F := F) (w := w) (cs := cs) fs.toList 0 ks hl (by rw [h1, hct]; omega) fun f hf l hlv => by
     obtain ⟨i, hi⟩ := List.getElem?_of_mem hf
     have hfi : fs[i]? = some f := by simpa using hi
     have hi2 : i < xs.length := by
      have := (Array.getElem?_eq_some_iff.1 hfi).1
      omega
     have := h3 i f hfi
     rw [show xs[i]? = some xs[i] by simp [hi2]] at this
     exact trod_data hF n f.type l hlv this
    simpa using this
   ·cases h
  ·cases h

abbrev Has (W : World) : Nat → Nat → Prop := fun b q => ∃ v, W.cell? ⟨b, q, none⟩ = some v

theorem arg_da {g : Gh} {tk : List Nat} (hg : g.frz = Has w) {t : TypeId} {ks : List Lk} (hk : leavesK P 12 t = some ks) (hagg : aggT P t = true) {v : Value} (hv : Value.okWide P w .any base t v) {d : DataW H} {p : List MemPlace}
  (h : DataW.Trod enc P w 0 spare held t v d p) : ∃ ds, VR g tk w (.da ds) v ∧ Lks ks ds := by
 obtain ⟨fuel, ht⟩ := h
 obtain ⟨ds, h1, h2, h3⟩ := trod_data (F := Has w) (fun b q v h => ⟨v, h⟩) 12 t ks hk ht
 have : ∃ cs, v = .agg cs := by
  unfold Value.okWide at hv
  unfold aggT at hagg
  split at hagg
  ·rename_i hu; rw [hu] at hv; obtain ⟨cs, rfl, _⟩ := hv; exact ⟨cs, rfl⟩
  ·rename_i hu; rw [hu] at hv; obtain ⟨cs, rfl, _⟩ := hv; exact ⟨cs, rfl⟩
  ·cases hagg
 obtain ⟨cs, rfl⟩ := this
 simp only [Value.cells] at h1 h3
 exact ⟨ds, .da ds cs (by rw [hg]; exact DR.agg_of h3 h1), h2⟩

end Go.Dn

/- Lists in the store: what reads as rows, what may be appended to; bytes. -/
namespace Go.Dn
set_option linter.unusedVariables false
set_option linter.unusedSimpArgs false

inductive LV : V → List (List D) → Prop
 | nil : LV (.d .nils) []
 | list (rows : List (List D)) : LV (.d (.list rows)) rows
 | fl (rows : List (List D)) : LV (.fl rows) rows
 | tl (rows : List (List D)) (t st sz : Nat) : LV (.tl rows t st sz) rows

theorem LV.len {v : V} {rows : List (List D)} (h : LV v rows) (σ : St) : lenT σ .slice v = some rows.length := by cases h <;> rfl
theorem LV.lenV {v : V} {rows : List (List D)} (h : LV v rows) (σ : St) : Dn.lenV σ v = some rows.length := by cases h <;> rfl
theorem LV.rows {v : V} {rows : List (List D)} (h : LV v rows) (σ : St) : V.rows σ v = some rows := by cases h <;> rfl
theorem LV.iaddr {v : V} {rows : List (List D)} (h : LV v rows) (σ : St) {k : IntKind} {sz i : Nat} {row : List D} (hr : rows[i]? = some row) (hs : row.length = sz) : iaddrV σ sz v (.d (.int k i)) = some (.ro row) := by
 have hl : i < rows.length := by
  rw [List.getElem?_eq_some_iff] at hr; exact hr.1
 have hg : rows[i] = row := by
  rw [List.getElem?_eq_some_iff] at hr; exact hr.2
 cases h with
 | nil => simp at hl
 | _ => simp [iaddrV, asIdx, V.rows, hl, hg, hs]
theorem LV.byVal {v : V} {rows : List (List D)} (h : LV v rows) (σ : St) : ∃ d, V.byVal σ v = some (.d d) ∧ LV (.d d) rows := by
 cases h with
 | nil => exact ⟨_, rfl, .nil⟩
 | _ => exact ⟨_, rfl, .list _⟩
theorem LV.borrows {v : V} {rows : List (List D)} (h : LV v rows) : v.borrows = false := by cases h <;> rfl
theorem LV.isNil {v : V} {rows : List (List D)} (h : LV v rows) : ∃ b, V.isNil .slice v = some b ∧ (b = true → v = .d .nils ∧ rows = []) := by
 cases h with
 | nil => exact ⟨true, rfl, fun _ => ⟨rfl, rfl⟩⟩
 | _ => exact ⟨false, rfl, fun h => by cases h⟩

theorem fitR_iff {sz : Nat} {rows : List (List D)} : fitR sz rows = true ↔ ∀ r ∈ rows, r.length = sz := by
 simp [fitR]

theorem LV.slice {v : V} {rows : List (List D)} (h : LV v rows) (σ : St) {sz : Nat} (hf : ∀ r ∈ rows, r.length = sz) (hts : ∀ r t st s, v = .tl r t st s → s = sz) {lo hi : Nat} (h1 : lo ≤ hi) (h2 : hi ≤ rows.length) :
  ∃ v', sliceV sz v lo hi none = some v' ∧ LV v' ((rows.drop lo).take (hi - lo)) ∧ (∀ r t st s, v' = .tl r t st s → s = sz) := by
 have hf' := fitR_iff.2 hf
 cases h with
 | nil =>
  obtain rfl : hi = 0 := by simpa using h2
  obtain rfl : lo = 0 := by omega
  exact ⟨_, rfl, .nil, fun r t st s h => by cases h⟩
 | list rows => exact ⟨_, by simp [sliceV, hf', h2], .list _, fun r t st s h => by cases h⟩
 | fl rows =>
  by_cases he : hi = rows.length
  ·subst he
   refine ⟨.fl (rows.drop lo), by simp [sliceV, hf'], ?_, fun r t st s h => by cases h⟩
   rw [List.take_of_length_le (by simp)]
   exact .fl _
  ·exact ⟨_, by simp [sliceV, hf', he, h2], .list _, fun r t st s h => by cases h⟩
 | tl rows t st s =>
  obtain rfl := hts _ _ _ _ rfl
  by_cases he : hi = rows.length
  ·subst he
   refine ⟨.tl (rows.drop lo) t (st + lo) s, by simp [sliceV, hf'], ?_, fun r t st s h => by cases h; rfl⟩
   rw [List.take_of_length_le (by simp)]
   exact .tl _ _ _ _
  ·exact ⟨_, by simp [sliceV, hf', he, h2], .list _, fun r t st s h => by cases h⟩

def dv : V → V
 | .fl rows => .d (.list rows)
 | .tl rows _ _ _ => .d (.list rows)
 | v => v
theorem LV.dv {v : V} {rows : List (List D)} (h : LV v rows) (σ : St) : V.byVal σ v = some (Dn.dv v) ∧ LV (Dn.dv v) rows ∧ (∃ x, Dn.dv v = .d x) ∧ (Dn.dv v).borrows = false ∧ (Dn.dv v).pure = true := by
 cases h with
 | nil => exact ⟨rfl, .nil, ⟨_, rfl⟩, rfl, rfl⟩
 | list => exact ⟨rfl, .list _, ⟨_, rfl⟩, rfl, rfl⟩
 | fl => exact ⟨rfl, .list _, ⟨_, rfl⟩, rfl, rfl⟩
 | tl => exact ⟨rfl, .list _, ⟨_, rfl⟩, rfl, rfl⟩

def own : V → Option Nat
 | .tl _ t _ _ => some t
 | _ => none

inductive App (σ : St) (sz : Nat) : V → List (List D) → Prop
 | nil : App σ sz (.d .nils) []
 | fl (rows : List (List D)) : App σ sz (.fl rows) rows
 | tl (rows : List (List D)) (t st : Nat) (h : σ.toks[t]? = some (st + rows.length)) : App σ sz (.tl rows t st sz) rows

theorem App.lv {σ : St} {sz : Nat} {v : V} {rows : List (List D)} (h : App σ sz v rows) : LV v rows := by
 cases h with
 | nil => exact .nil
 | fl => exact .fl _
 | tl rows t st h => exact .tl _ _ _ _
structure Toks (l l' : List Nat) (o o' : Option Nat) : Prop where
 len : l.length ≤ l'.length
 other : ∀ (t k : Nat), l[t]? = some k → o ≠ some t → l'[t]? = some k
 own : o' = o ∨ ∃ t, o' = some t ∧ l.length ≤ t

theorem Toks.refl (l : List Nat) (o : Option Nat) : Toks l l o o := ⟨Nat.le_refl _, fun _ _ h _ => h, .inl rfl⟩
theorem App.other {σ σ' : St} {sz : Nat} {v : V} {rows : List (List D)} (h : App σ sz v rows) {o o' : Option Nat} (ht : Toks σ.toks σ'.toks o o') (hne : ∀ t, Dn.own v = some t → o ≠ some t) : App σ' sz v rows := by
 cases h with
 | nil => exact .nil
 | fl => exact .fl _
 | tl rows t st h => exact .tl _ _ _ (ht.other t _ h (hne t rfl))

theorem App.toks {σ σ' : St} {sz : Nat} {v : V} {rows : List (List D)} (h : App σ sz v rows) (ht : σ'.toks = σ.toks) : App σ' sz v rows := by
 cases h with
 | nil => exact .nil
 | fl => exact .fl _
 | tl rows t st h => exact .tl _ _ _ (by rw [ht]; exact h)

theorem App.push {σ : St} {sz bytes : Nat} {v : V} {rows : List (List D)} (hv : App σ sz v rows) (hpos : 0 < sz) (hfr : ∀ r ∈ rows, r.length = sz) {ys : List (List D)} (hfy : ∀ r ∈ ys, r.length = sz)
  (hb : (rows.length + ys.length) * bytes ≤ 140737488355328) (h63 : rows.length + ys.length ≤ 9223372036854775807) :
  ∃ v' σ', (∀ tg, appendV σ tg sz bytes v ys = some (v', σ')) ∧ App σ' sz v' (rows ++ ys) ∧ σ'.objs = σ.objs ∧ Toks σ.toks σ'.toks (Dn.own v) (Dn.own v') ∧ (v ≠ .d .nils ∨ ys ≠ [] → Dn.dv v' = .d (.list (rows ++ ys))) := by
 have h1 := fitR_iff.2 hfr
 have h2 := fitR_iff.2 hfy
 by_cases hy : ys = []
 ·subst hy
  refine ⟨v, σ, fun tg => ?_, by rw [List.append_nil]; exact hv, rfl, Toks.refl _ _, fun h => ?_⟩
  ·cases hv <;> simp [appendV, h2, V.rows]
  ·cases hv <;> simp_all [Dn.dv]
 ·cases hv with
  | nil =>
   refine ⟨.tl ys σ.toks.length 0 sz, σ.pushTok ys.length, fun tg => ?_, ?_, rfl, ?_, fun _ => rfl⟩
   ·simp at hb h63
    simp [appendV, h2, hy, hpos, hb, h63]
   ·rw [List.nil_append]
    exact .tl _ _ _ (by simp [St.pushTok])
   ·exact ⟨by simp [St.pushTok], fun t k ht _ => by
     simp only [St.pushTok]
     rw [List.getElem?_append_left (List.getElem?_eq_some_iff.1 ht).1]; exact ht, .inr ⟨_, rfl, Nat.le_refl _⟩⟩
  | fl rows =>
   refine ⟨.tl (rows ++ ys) σ.toks.length 0 sz, σ.pushTok (rows.length + ys.length), fun tg => ?_, ?_, rfl, ?_, fun _ => rfl⟩
   ·simp [appendV, h2, hy, hpos, hb, h63, h1]
   ·exact .tl _ _ _ (by simp [St.pushTok])
   ·exact ⟨by simp [St.pushTok], fun t k ht _ => by
     simp only [St.pushTok]
     rw [List.getElem?_append_left (List.getElem?_eq_some_iff.1 ht).1]; exact ht, .inr ⟨_, rfl, Nat.le_refl _⟩⟩
  | tl rows t st ht =>
   have hl := (List.getElem?_eq_some_iff.1 ht).1
   refine ⟨.tl (rows ++ ys) t st sz, σ.setTok t (st + rows.length + ys.length), fun tg => ?_, ?_, rfl, ?_, fun _ => rfl⟩
   ·simp [appendV, h2, hy, hpos, hb, h63, h1, ht]
   ·exact .tl _ _ _ (by simp [St.setTok, hl]; omega)
   ·exact ⟨by simp [St.setTok], fun t' k ht' hne => by
     simp only [St.setTok]
     rw [List.getElem?_set_ne (fun e => hne (by rw [e]; rfl))]; exact ht', .inl rfl⟩

theorem appendM_fl {σ : St} {sz bytes : Nat} {rows ys : List (List D)} (hpos : 0 < sz) (hfr : ∀ r ∈ rows, r.length = sz) (hfy : ∀ r ∈ ys, r.length = sz) (hne : ys ≠ []) (hb : (rows.length + ys.length) * bytes ≤ 140737488355328) (h63 : rows.length + ys.length ≤ 9223372036854775807) :
  appendM σ none sz bytes (.fl rows) ys = some (.sl σ.objs.length 0 (rows.length + ys.length) sz, σ.push (.cells ((rows ++ ys).flatten.map .d))) := by
 simp [appendM, fitR_iff.2 hfr, fitR_iff.2 hfy, hne, hpos, hb, h63, newObj, St.place, St.spot]

theorem byteRows_len (l : List UInt8) : (byteRows l).length = l.length := by simp [byteRows]
theorem byteRows_fit (l : List UInt8) : ∀ r ∈ byteRows l, r.length = 1 := by
 intro r hr
 simp only [byteRows, List.mem_map] at hr
 obtain ⟨b, _, rfl⟩ := hr
 rfl
theorem byteRows_drop (l : List UInt8) (n : Nat) : (byteRows l).drop n = byteRows (l.drop n) := by simp [byteRows]
theorem byteRows_take (l : List UInt8) (n : Nat) : (byteRows l).take n = byteRows (l.take n) := by simp [byteRows]
theorem byteRows_at {l : List UInt8} {i : Nat} {b : UInt8} (h : l[i]? = some b) : (byteRows l)[i]? = some [.int .u8 b.toNat] := by simp [byteRows, h]

theorem wrap_i64 {n : Int} (h : -9223372036854775808 ≤ n) (h' : n ≤ 9223372036854775807) : IntKind.i64.wrap n = n := by
 simp only [IntKind.wrap, IntKind.signed, IntKind.bits]
 simp
 omega
theorem wrap_u64 {n : Int} (h : 0 ≤ n) (h' : n ≤ 18446744073709551615) : IntKind.u64.wrap n = n := by
 simp only [IntKind.wrap, IntKind.signed, IntKind.bits]
 simp
 omega

theorem room_at {σ : St} {m r : Nat} {o : Obj} (h : σ.objs[r]? = some o) : (σ.room m).objs[r]? = some o := by
 simp only [St.room]
 rw [List.getElem?_append_left (List.getElem?_eq_some_iff.1 h).1]; exact h
structure Fr (F : List Nat) (σ σ' : St) : Prop where
 len : σ.objs.length ≤ σ'.objs.length
 at_ : ∀ r, r ∉ F → r < σ.objs.length → σ'.objs[r]? = σ.objs[r]?

theorem Fr.refl (F : List Nat) (σ : St) : Fr F σ σ := ⟨Nat.le_refl _, fun _ _ _ => rfl⟩
theorem Fr.trans {F : List Nat} {a b c : St} (h : Fr F a b) (h' : Fr F b c) : Fr F a c :=
 ⟨Nat.le_trans h.len h'.len, fun r hr hl => (h'.at_ r hr (Nat.lt_of_lt_of_le hl h.len)).trans (h.at_ r hr hl)⟩
theorem Fr.mono {F F' : List Nat} {a b : St} (h : Fr F a b) (hs : ∀ r ∈ F, r ∈ F') : Fr F' a b := ⟨h.len, fun r hr => h.at_ r fun h => hr (hs r h)⟩
theorem Fr.get {F : List Nat} {a b : St} (h : Fr F a b) {r : Nat} {o : Obj} (ho : a.objs[r]? = some o) (hr : r ∉ F) : b.objs[r]? = some o := by
 rw [h.at_ r hr (List.getElem?_eq_some_iff.1 ho).1]; exact ho
theorem Fr.keeps {a b : St} (h : Fr [] a b) (ht : ∀ (t k : Nat), a.toks[t]? = some k → b.toks[t]? = some k) : Keeps a b := ⟨fun i hi => h.at_ i (by simp) hi, ht⟩

theorem cell_d (x : D) : (V.d x).cells = some [.d x] := rfl
theorem cell_da (l : List D) : (V.da l).cells = some (l.map .d) := rfl
theorem cell_agg (l : List V) : (V.agg l).cells = some l := rfl
theorem cell_ref (r o : Nat) : (V.ref r o).cells = some [.ref r o] := rfl
theorem cell_sl (r o l s : Nat) : (V.sl r o l s).cells = some [.sl r o l s] := rfl
theorem cell_fl (r : List (List D)) : (V.fl r).cells = some [.fl r] := rfl
theorem cell_tl (r : List (List D)) (t st s : Nat) : (V.tl r t st s).cells = some [.tl r t st s] := rfl
theorem cell_map (r : Nat) : (V.map r).cells = some [.map r] := rfl
theorem cell_fn (f : Fn) (a b : List V) : (V.fn f a b).cells = some [.fn f a b] := rfl
theorem cell_ifc (t : Nat) (v : V) : (V.ifc t v).cells = some [.ifc t v] := rfl
theorem LV.cells {v : V} {rows : List (List D)} (h : LV v rows) : v.cells = some [v] := by cases h <;> rfl
theorem bv_d (σ : St) (x : D) : V.byVal σ (.d x) = some (.d x) := rfl
theorem bv_da (σ : St) (l : List D) : V.byVal σ (.da l) = some (.da l) := rfl
theorem bv_fl (σ : St) (r : List (List D)) : V.byVal σ (.fl r) = some (.d (.list r)) := rfl
theorem bv_tl (σ : St) (r : List (List D)) (t st s : Nat) : V.byVal σ (.tl r t st s) = some (.d (.list r)) := rfl
theorem bn_d (lo : Nat) (σ : St) (x : D) : V.byValN lo σ (.d x) = some (.d x) := rfl
theorem bn_da (lo : Nat) (σ : St) (l : List D) : V.byValN lo σ (.da l) = some (.da l) := rfl
theorem bn_fl (lo : Nat) (σ : St) (r : List (List D)) : V.byValN lo σ (.fl r) = some (.d (.list r)) := rfl
theorem bn_tl (lo : Nat) (σ : St) (r : List (List D)) (t st s : Nat) : V.byValN lo σ (.tl r t st s) = some (.d (.list r)) := rfl
theorem LV.byValN {v : V} {rows : List (List D)} (h : LV v rows) (lo : Nat) (σ : St) : V.byValN lo σ v = V.byVal σ v := by cases h <;> rfl

end Go.Dn

/- A contract with the store as it stands, turned to other modes. -/
namespace Go.Dn
set_option linter.unusedVariables false
set_option linter.unusedSimpArgs false
variable {cx : Cx}

theorem Call.inv {Γ : Nat → Option FnC} {m : Mode} {f : Nat} {vs : List V} {σ : St} {Q : Post} (h : Call Γ cx m f vs σ Q) (hm : m ≠ .rnd := by decide) : ∃ fc, Γ f = some fc ∧ bodyP (Call Γ cx) cx m fc vs σ Q := by
 refine (h (fun m f vs σ Q => Call Γ cx m f vs σ Q ∧ (m ≠ .rnd → ∃ fc, Γ f = some fc ∧ bodyP (Call Γ cx) cx m fc vs σ Q)) ?_).2 hm
 intro m f vs σ Q hs
 by_cases hr : m = .rnd
 ·subst hr
  have hs' : stepP Γ (Call Γ cx) cx .rnd f vs σ Q := stepP_le (fun m f vs σ Q h => h.1) (fun v s h => h) hs
  exact ⟨Call.round hs', fun h => absurd rfl h⟩
 ·have hs' : stepP Γ (Call Γ cx) cx m f vs σ Q := stepP_le (fun m f vs σ Q h => h.1) (fun v s h => h) hs
  have : ∃ fc, Γ f = some fc ∧ bodyP (Call Γ cx) cx m fc vs σ Q := by
   unfold stepP at hs'
   cases m with
   | rnd => exact absurd rfl hr
   | _ => exact hs'
  obtain ⟨fc, hf, hb⟩ := this
  exact ⟨Call.body hf hb hr, fun _ => ⟨fc, hf, hb⟩⟩

theorem Call.as_val {Γ : Nat → Option FnC} {f : Nat} {fc : FnC} (hf : Γ f = some fc) (h1 : fc.res.length = 1) {vs : List V} {Q Q' : Post} (h : Call Γ cx .raw f vs St.empty Q) (hq : ∀ v s, Q v s → ∃ d, V.byVal s v = some d ∧ Q' d s) : Call Γ cx .val f vs St.empty Q' := by
 obtain ⟨fc', hf', hl, hb⟩ := h.inv
 rw [hf] at hf'
 cases hf'
 refine Call.body hf ⟨hl, wcode_le (fun m f vs σ Q h => h) _ (fun ex e s hx => ?_) hb⟩
 have key : (∃ v, retV .raw St.empty.objs.length e s fc.res = some v ∧ (Mode.raw = .rd → Keeps St.empty s) ∧ Q v s) → ∃ v, retV .val St.empty.objs.length e s fc.res = some v ∧ (Mode.val = .rd → Keeps St.empty s) ∧ Q' v s := by
  rintro ⟨v, hr, _, hv⟩
  obtain ⟨d, hd, hd'⟩ := hq v s hv
  unfold retV at hr ⊢
  match hv2 : fc.res, h1 with
  | [x], _ =>
   rw [hv2] at hr
   unfold resAll at hr ⊢
   cases hx : Res.ev e s x with
   | none => simp [hx] at hr
   | some y =>
    simp [hx, resAll, tupOf] at hr
    subst hr
    simp [resAll, byVals, hd, tupOf]
    exact hd'
 cases ex with
 | exit id => exact hx
 | normal => exact key hx
 | ret => exact key hx

theorem use_valN {cx0 : Cx} {Γ : Nat → Option FnC} {n0 : Nat} {ks : List Nat} {e : Env} {f : Nat} (hm : cx.mode f = .val) {vs ds : List V} {σ : St} (hds : byVals σ vs = some ds) {Q' : Post} (h : Call Γ cx0 .val f ds St.empty Q') (hex : ∃ v s, Q' v s) {Q : Post} (hq : ∀ v s, Q' v s → v.pure = true ∧ (vs.any V.borrows = true → v.scalars = true) ∧ Q v σ) :
  callN (Call Γ cx0) cx n0 ks e f vs σ Q := by
 unfold callN
 rw [hm]
 simp only
 rw [hds]
 exact ⟨_, h, hex, hq⟩

theorem room_zero (σ : St) : σ.room 0 = σ := by simp [St.room]
end Go.Dn

/- For those who prove: loops over functions, rounds, maps. -/
namespace Go.Dn
set_option linter.unusedVariables false
set_option linter.unusedSimpArgs false
variable {K : CallP} {cx : Cx}

def rfQ (r : Nat) (ks : List Nat) (e : Env) (Q : PostC) (s : St) : Prop := match s.objs[r]? with
 | some (.loop _ _ _ _ .ready) => Q .normal (e.pick ks) (s.setObj r .dead)
 | some (.loop _ _ _ _ (.done x)) => Q x (e.pick ks) (s.setObj r .dead)
 | _ => False

theorem w_rangeF {ks : List Nat} {f : Opd} {ps : List Nat} {a b : C} {e : Env} {σ : St} {Q : PostC} : wcode K cx (.rangeF ks f ps a b) e σ Q = (match f.ev e with
 | .fn (.func g) first caps => ∃ Q', K .raw g (first ++ [.yld σ.objs.length] ++ caps) (σ.push (.loop (e.pick ks) ps a b .ready)) Q' ∧ ∀ v s, Q' v s → rfQ σ.objs.length ks e Q s
 | _ => False) := rfl

theorem rfQ_ready {r : Nat} {ks : List Nat} {e : Env} {Q : PostC} {s : St} {e' : Env} {ps : List Nat} {a b : C} (h : s.objs[r]? = some (.loop e' ps a b .ready)) (hq : Q .normal (e.pick ks) (s.setObj r .dead)) : rfQ r ks e Q s := by
 unfold rfQ
 rw [h]
 exact hq

def rndB (r : Nat) (e : Env) (ps : List Nat) (a b : C) (Q : Post) : PostC := fun ex e2 s2 => s2.objs[r]? = some (.loop e ps a b .busy) ∧ match ex with
 | .normal => Q (.d (.bool true)) (s2.setObj r (.loop e ps a b .ready))
 | x => Q (.d (.bool false)) (s2.setObj r (.loop e ps a b (.done x)))
def rndA (K : CallP) (cx : Cx) (r : Nat) (e : Env) (ps : List Nat) (a b : C) (Q : Post) : PostC := fun ex e1 s1 => match ex with
 | .normal => s1.objs[r]? = some (.loop e ps a b .ready) ∧ wcode K cx b e1 (s1.setObj r (.loop e ps a b .busy)) (rndB r e ps a b Q)
 | _ => False

theorem q_rndA {r : Nat} {e : Env} {ps : List Nat} {a b : C} {Q : Post} {e1 : Env} {s1 : St} : rndA K cx r e ps a b Q .normal e1 s1 = (s1.objs[r]? = some (.loop e ps a b .ready) ∧ wcode K cx b e1 (s1.setObj r (.loop e ps a b .busy)) (rndB r e ps a b Q)) := rfl
theorem q_rndB_n {r : Nat} {e : Env} {ps : List Nat} {a b : C} {Q : Post} {e1 : Env} {s1 : St} : rndB r e ps a b Q .normal e1 s1 = (s1.objs[r]? = some (.loop e ps a b .busy) ∧ Q (.d (.bool true)) (s1.setObj r (.loop e ps a b .ready))) := rfl
theorem q_rndB_e {r : Nat} {e : Env} {ps : List Nat} {a b : C} {Q : Post} {e1 : Env} {s1 : St} {id : Nat} : rndB r e ps a b Q (.exit id) e1 s1 = (s1.objs[r]? = some (.loop e ps a b .busy) ∧ Q (.d (.bool false)) (s1.setObj r (.loop e ps a b (.done (.exit id))))) := rfl
theorem q_rndB_r {r : Nat} {e : Env} {ps : List Nat} {a b : C} {Q : Post} {e1 : Env} {s1 : St} : rndB r e ps a b Q .ret e1 s1 = (s1.objs[r]? = some (.loop e ps a b .busy) ∧ Q (.d (.bool false)) (s1.setObj r (.loop e ps a b (.done .ret)))) := rfl

theorem Call.rnd {Γ : Nat → Option FnC} {r : Nat} {e : Env} {ps : List Nat} {a b : C} {vs : List V} {σ : St} {Q : Post} (ho : σ.objs[r]? = some (.loop e ps a b .ready)) (hl : vs.length = ps.length)
  (h : wcode (Call Γ cx) cx a (setAll e ps vs) σ (rndA (Call Γ cx) cx r e ps a b Q)) : Call Γ cx .rnd r vs σ Q :=
 Call.round ⟨e, ps, a, b, ho, hl, h⟩

theorem nextV_at {σ : St} {r m : Nat} {since : Nat} {seen : List Nat} {es : List (Nat × V × V)} (hr : σ.objs[r]? = some (.iter (some m) since seen since)) (hm : σ.objs[m]? = some (.map es since)) (hlt : ∀ x ∈ es, x.1 < since) {Q : Post}
  (h1 : ∀ x ∈ es, seen.contains x.1 = false → Q (.tup [.d (.bool true), x.2.1, x.2.2]) (σ.setObj r (.iter (some m) since (seen ++ [x.1]) since)))
  (h2 : (∀ x ∈ es, seen.contains x.1 = true) → Q (.tup [.d (.bool false)]) σ) : nextV (.iter r) σ Q := by
 simp only [nextV, hr, hm]
 exact ⟨trivial, trivial, hlt, h1, h2⟩

end Go.Dn

/- Numbers of 32 and 64 bits, as bit vectors. -/
namespace Go.Dn
set_option linter.unusedVariables false
set_option linter.unusedSimpArgs false

abbrev W32 := BitVec 32
abbrev W64 := BitVec 64

def un {k : Nat} (x : BitVec k) : Int := (x.toNat : Int)

namespace Raw
theorem wrap_u32 (n : Nat) : IntKind.u32.wrap (n : Int) = ((BitVec.ofNat 32 n).toNat : Int) := by
 simp only [IntKind.wrap, IntKind.signed, IntKind.bits, BitVec.toNat_ofNat]
 simp
theorem wrap_u64n (n : Nat) : IntKind.u64.wrap (n : Int) = ((BitVec.ofNat 64 n).toNat : Int) := by
 simp only [IntKind.wrap, IntKind.signed, IntKind.bits, BitVec.toNat_ofNat]
 simp
theorem wrap_u8n (n : Nat) : IntKind.u8.wrap (n : Int) = ((n % 256 : Nat) : Int) := by
 simp only [IntKind.wrap, IntKind.signed, IntKind.bits]
 simp

theorem add_u64 (x y : W64) : IntKind.u64.wrap ((x.toNat : Int) + (y.toNat : Int)) = ((x + y).toNat : Int) := by
 rw [← Int.natCast_add, wrap_u64n]
 simp
theorem ofInt_nat {k : Nat} (x : BitVec k) : BitVec.ofInt k (x.toNat : Int) = x := by
 rw [BitVec.ofInt_natCast]
 simp

theorem xor_u32 (x y : W32) : bits .xor .u32 (x.toNat : Int) (y.toNat : Int) = ((x ^^^ y).toNat : Int) := by
 show IntKind.u32.wrap (((BitVec.ofInt 32 (x.toNat : Int) ^^^ BitVec.ofInt 32 (y.toNat : Int)).toNat : Nat) : Int) = _
 rw [ofInt_nat, ofInt_nat, wrap_u32, BitVec.ofNat_toNat, BitVec.setWidth_eq]
theorem and_u32 (x y : W32) : bits .and .u32 (x.toNat : Int) (y.toNat : Int) = ((x &&& y).toNat : Int) := by
 show IntKind.u32.wrap (((BitVec.ofInt 32 (x.toNat : Int) &&& BitVec.ofInt 32 (y.toNat : Int)).toNat : Nat) : Int) = _
 rw [ofInt_nat, ofInt_nat, wrap_u32, BitVec.ofNat_toNat, BitVec.setWidth_eq]
theorem xor_u64 (x y : W64) : bits .xor .u64 (x.toNat : Int) (y.toNat : Int) = ((x ^^^ y).toNat : Int) := by
 show IntKind.u64.wrap (((BitVec.ofInt 64 (x.toNat : Int) ^^^ BitVec.ofInt 64 (y.toNat : Int)).toNat : Nat) : Int) = _
 rw [ofInt_nat, ofInt_nat, wrap_u64n, BitVec.ofNat_toNat, BitVec.setWidth_eq]
theorem and_u64 (x y : W64) : bits .and .u64 (x.toNat : Int) (y.toNat : Int) = ((x &&& y).toNat : Int) := by
 show IntKind.u64.wrap (((BitVec.ofInt 64 (x.toNat : Int) &&& BitVec.ofInt 64 (y.toNat : Int)).toNat : Nat) : Int) = _
 rw [ofInt_nat, ofInt_nat, wrap_u64n, BitVec.ofNat_toNat, BitVec.setWidth_eq]
theorem or_u64 (x y : W64) : bits .or .u64 (x.toNat : Int) (y.toNat : Int) = ((x ||| y).toNat : Int) := by
 show IntKind.u64.wrap (((BitVec.ofInt 64 (x.toNat : Int) ||| BitVec.ofInt 64 (y.toNat : Int)).toNat : Nat) : Int) = _
 rw [ofInt_nat, ofInt_nat, wrap_u64n, BitVec.ofNat_toNat, BitVec.setWidth_eq]
theorem shl_u32 (x : W32) (n : Nat) : IntKind.u32.wrap ((x.toNat : Int) * 2 ^ n) = ((x <<< n).toNat : Int) := by
 have : (x.toNat : Int) * 2 ^ n = ((x.toNat * 2 ^ n : Nat) : Int) := by simp
 rw [this, wrap_u32]
 congr 1
 simp [BitVec.toNat_shiftLeft, Nat.shiftLeft_eq]
theorem shr_u32 (x : W32) (n : Nat) : (x.toNat : Int) / 2 ^ n = ((x >>> n).toNat : Int) := by
 have : (x.toNat : Int) / 2 ^ n = ((x.toNat / 2 ^ n : Nat) : Int) := by simp
 rw [this]
 congr 1
 simp [BitVec.toNat_ushiftRight, Nat.shiftRight_eq_div_pow]
theorem shl_u64 (x : W64) (n : Nat) : IntKind.u64.wrap ((x.toNat : Int) * 2 ^ n) = ((x <<< n).toNat : Int) := by
 have : (x.toNat : Int) * 2 ^ n = ((x.toNat * 2 ^ n : Nat) : Int) := by simp
 rw [this, wrap_u64n]
 congr 1
 simp [BitVec.toNat_shiftLeft, Nat.shiftLeft_eq]
theorem shr_u64 (x : W64) (n : Nat) : (x.toNat : Int) / 2 ^ n = ((x >>> n).toNat : Int) := by
 have : (x.toNat : Int) / 2 ^ n = ((x.toNat / 2 ^ n : Nat) : Int) := by simp
 rw [this]
 congr 1
 simp [BitVec.toNat_ushiftRight, Nat.shiftRight_eq_div_pow]

end Raw

theorem wrap_u32 (n : Nat) : IntKind.u32.wrap (n : Int) = (un (BitVec.ofNat 32 n)) := Raw.wrap_u32 n
theorem wrap_u64n (n : Nat) : IntKind.u64.wrap (n : Int) = (un (BitVec.ofNat 64 n)) := Raw.wrap_u64n n
theorem add_u64 (x y : W64) : IntKind.u64.wrap ((un x) + (un y)) = (un (x + y)) := Raw.add_u64 x y
theorem ofInt_nat {k : Nat} (x : BitVec k) : BitVec.ofInt k (un x) = x := Raw.ofInt_nat x
theorem xor_u32 (x y : W32) : bits .xor .u32 (un x) (un y) = (un (x ^^^ y)) := Raw.xor_u32 x y
theorem and_u32 (x y : W32) : bits .and .u32 (un x) (un y) = (un (x &&& y)) := Raw.and_u32 x y
theorem xor_u64 (x y : W64) : bits .xor .u64 (un x) (un y) = (un (x ^^^ y)) := Raw.xor_u64 x y
theorem and_u64 (x y : W64) : bits .and .u64 (un x) (un y) = (un (x &&& y)) := Raw.and_u64 x y
theorem or_u64 (x y : W64) : bits .or .u64 (un x) (un y) = (un (x ||| y)) := Raw.or_u64 x y
theorem shl_u32 (x : W32) (n : Nat) : IntKind.u32.wrap ((un x) * 2 ^ n) = (un (x <<< n)) := Raw.shl_u32 x n
theorem shr_u32 (x : W32) (n : Nat) : (un x) / 2 ^ n = (un (x >>> n)) := Raw.shr_u32 x n
theorem shl_u64 (x : W64) (n : Nat) : IntKind.u64.wrap ((un x) * 2 ^ n) = (un (x <<< n)) := Raw.shl_u64 x n
theorem shr_u64 (x : W64) (n : Nat) : (un x) / 2 ^ n = (un (x >>> n)) := Raw.shr_u64 x n
theorem wrap_u8n (n : Nat) : IntKind.u8.wrap (n : Int) = ((n % 256 : Nat) : Int) := Raw.wrap_u8n n

end Go.Dn

/- SHA-256, plain. -/
namespace Go.Dn.Sha
set_option linter.unusedVariables false

def rotr (x : W32) (n : Nat) : W32 := (x >>> n) ||| (x <<< (32 - n))
def sg0 (x : W32) : W32 := rotr x 7 ^^^ rotr x 18 ^^^ (x >>> 3)
def sg1 (x : W32) : W32 := rotr x 17 ^^^ rotr x 19 ^^^ (x >>> 10)
def Sg0 (x : W32) : W32 := rotr x 2 ^^^ rotr x 13 ^^^ rotr x 22
def Sg1 (x : W32) : W32 := rotr x 6 ^^^ rotr x 11 ^^^ rotr x 25
def ch (e f g : W32) : W32 := (e &&& f) ^^^ (~~~e &&& g)
def maj (a b c : W32) : W32 := (a &&& b) ^^^ (a &&& c) ^^^ (b &&& c)

def beW (b : List UInt8) : W32 := b.foldl (fun o c => (o <<< 8) ||| BitVec.ofNat 32 c.toNat) 0

def wsN (blk : List UInt8) : Nat → List W32
 | 0 => []
 | i + 1 => wsN blk i ++ [if i < 16 then beW ((blk.drop (4 * i)).take 4) else sg1 ((wsN blk i).getD (i - 2) 0) + (wsN blk i).getD (i - 7) 0 + sg0 ((wsN blk i).getD (i - 15) 0) + (wsN blk i).getD (i - 16) 0]
def sched (blk : List UInt8) : List W32 := wsN blk 64

structure S8 where
 a : W32
 b : W32
 c : W32
 d : W32
 e : W32
 f : W32
 g : W32
 h : W32
def one (x : S8) (k w : W32) : W32 := x.h + Sg1 x.e + ch x.e x.f x.g + k + w
def two (x : S8) : W32 := Sg0 x.a + maj x.a x.b x.c
def rnd (x : S8) (k w : W32) : S8 := ⟨one x k w + two x, x.a, x.b, x.c, x.d + one x k w, x.e, x.f, x.g⟩

def K256 : List W32 := [
 0x428a2f98, 0x71374491, 0xb5c0fbcf, 0xe9b5dba5, 0x3956c25b, 0x59f111f1, 0x923f82a4, 0xab1c5ed5,
 0xd807aa98, 0x12835b01, 0x243185be, 0x550c7dc3, 0x72be5d74, 0x80deb1fe, 0x9bdc06a7, 0xc19bf174,
 0xe49b69c1, 0xefbe4786, 0x0fc19dc6, 0x240ca1cc, 0x2de92c6f, 0x4a7484aa, 0x5cb0a9dc, 0x76f988da,
 0x983e5152, 0xa831c66d, 0xb00327c8, 0xbf597fc7, 0xc6e00bf3, 0xd5a79147, 0x06ca6351, 0x14292967,
 0x27b70a85, 0x2e1b2138, 0x4d2c6dfc, 0x53380d13, 0x650a7354, 0x766a0abb, 0x81c2c92e, 0x92722c85,
 0xa2bfe8a1, 0xa81a664b, 0xc24b8b70, 0xc76c51a3, 0xd192e819, 0xd6990624, 0xf40e3585, 0x106aa070,
 0x19a4c116, 0x1e376c08, 0x2748774c, 0x34b0bcb5, 0x391c0cb3, 0x4ed8aa4a, 0x5b9cca4f, 0x682e6ff3,
 0x748f82ee, 0x78a5636f, 0x84c87814, 0x8cc70208, 0x90befffa, 0xa4506ceb, 0xbef9a3f7, 0xc67178f2]
def H0 : S8 := ⟨0x6a09e667, 0xbb67ae85, 0x3c6ef372, 0xa54ff53a, 0x510e527f, 0x9b05688c, 0x1f83d9ab, 0x5be0cd19⟩

def rN (h : S8) (w : List W32) : Nat → S8
 | 0 => h
 | i + 1 => rnd (rN h w i) (K256.getD i 0) (w.getD i 0)
def plus (x y : S8) : S8 := ⟨x.a + y.a, x.b + y.b, x.c + y.c, x.d + y.d, x.e + y.e, x.f + y.f, x.g + y.g, x.h + y.h⟩
def take (h : S8) (blk : List UInt8) : S8 := plus h (rN h (sched blk) 64)

def zs (n : Nat) : Nat := (64 - (n + 9) % 64) % 64
def hN (p : List UInt8) : Nat → S8
 | 0 => H0
 | i + 1 => take (hN p i) ((p.drop (64 * i)).take 64)
end Go.Dn.Sha
