/- A region that draws its order, in the order of the text. -/
import Derived.Test.YtjkedjjahjlmfaaFw30
namespace Go.Dn
set_option linter.unusedVariables false
set_option linter.unusedSimpArgs false

variable {K : CallP} {cx : Cx} {n0 : Nat} {ks : List Nat}

theorem opd_ext {e e' : Env} (h : ∀ s, e.get s = e'.get s) (x : Opd) : x.ev e = x.ev e' := by
  cases x with
  | t n => exact h n
  | _ => rfl

theorem same_ext {e e' : Env} (h : ∀ s, e.get s = e'.get s) (rd : List Nat) (σ : St) : Same rd e σ e' σ := fun s _ => ⟨h s, fun _ _ => rfl⟩

theorem put_ext {e e' : Env} (h : ∀ s, e.get s = e'.get s) (d : Option Nat) (v : V) : ∀ s, (putE e d v).get s = (putE e' d v).get s := fun s => by
  cases d with
  | none => exact h s
  | some t => simp only [putE, Env.get_set, h s]

theorem wtx_ext {Q : Env → St → Prop} (hq : Ext Q) : ∀ (l : List DOp), Ext fun e σ => wtx K cx n0 ks l e σ Q
  | [] => hq
  | d :: r => fun e e' σ he h => by
    have ih := wtx_ext hq r
    change wtx K cx n0 ks (d :: r) e σ Q at h
    show wtx K cx n0 ks (d :: r) e' σ Q
    simp only [wtx] at h ⊢
    exact (h.slots (fun s _ => he s) (fun s _ => he s)).mono fun v s hv => ih _ _ _ (put_ext he d.ins.dst v) hv

theorem one_simple {d : DOp} (h : d.one = true) : d.ins.simple = true := by
  unfold DOp.one at h
  generalize d.ins = i at *
  cases i <;> first | rfl | cases h

theorem adm_wdop {d : DOp} (hk : d.one = true) {e : Env} {σ : St} {Q : Env → St → Prop} {cx' : Cx} (h : Adm K cx n0 ks d e σ fun v s => Q (putE e d.ins.dst v) s) : wdop K cx' n0 d e σ Q := by
  replace h := h.2
  rw [wdop_eq]
  have hsim := one_simple hk
  have go : gsel d.guard e = some true → dgo K cx' n0 d e σ Q := fun hg => by
    unfold Adm0 at h
    split at h
    · unfold AdmN at h
      rw [hg] at h
      simp only at h
      unfold dgo
      generalize d.ins = i at *
      cases i with
      | p dst op =>
        simp only [nGo] at h
        simp only [wone]
        exact h
      | call dst f args =>
        simp only [nGo] at h
        simp only [wone]
        refine ⟨cx.mode f, ?_⟩
        cases hm : cx.mode f with
        | raw => simp only [hm] at h
        | val =>
          simp only [hm] at h
          simp only [callM]
          split at h
          · rename_i ds hds
            rw [hds]
            obtain ⟨Q', a, b, c⟩ := h
            exact ⟨Q', a, c⟩
          · exact h.elim
        | rd =>
          simp only [hm] at h
          obtain ⟨Q', a, b, c⟩ := h σ (Agr.refl _ _)
          exact ⟨Q', a, c⟩
      | _ => exact h.elim
    · unfold AdmX at h
      rw [hg] at h
      simp only at h
      unfold dgo
      generalize d.ins = i at *
      cases i with
      | e dst op =>
        simp only [xGo] at h
        refine h.imp (fun h => ?_) id
        split
        · rename_i v s hv; rw [hv] at h; exact h.2
        · rename_i hv; rw [hv] at h; exact h
      | call dst f args => simp only [wone]; exact xCall.callK h _
      | callv dst f args =>
        simp only [xGo] at h
        simp only [wone]
        split
        · rename_i g first caps hf; rw [hf] at h; exact xCall.callK h _
        · rename_i hn
          split at h
          · rename_i g first caps hf; exact (hn _ _ _ hf).elim
          · exact h
      | _ => exact h.elim
  have no : gsel d.guard e = some false → Q (goneOne d.ins e) σ := fun hg => by
    rw [goneOne_simple hsim]
    unfold Adm0 at h
    split at h
    · unfold AdmN at h; rw [hg] at h; exact h
    · unfold AdmX at h; rw [hg] at h; exact h
  have nn : gsel d.guard e ≠ none := fun hg => by
    unfold Adm0 at h
    split at h
    · unfold AdmN at h; rw [hg] at h; exact h
    · unfold AdmX at h; rw [hg] at h; exact h
  unfold gdo
  split
  · rename_i hg; exact go (by rw [hg]; rfl)
  · rename_i s want hg
    rw [hg] at go no nn
    simp only [gsel] at go no nn
    split
    · rename_i b hb
      rw [hb] at go no
      simp only at go no
      split
      · rename_i hbw; exact go (by simp [hbw])
      · rename_i hbw; exact no (by simp [hbw])
    · rename_i hb
      rw [hb] at no
      exact no rfl
    · rename_i h1 h2
      exfalso
      apply nn
      split
      · rename_i b hb; exact (h1 _ hb).elim
      · rename_i hb; exact (h2 hb).elim
      · rfl

def sel (l : List DOp) (is : List Nat) : List DOp := is.filterMap fun i => l[i]?
def remOf (n : Nat) (S : List Nat) : List Nat := (List.range n).filter fun i => !S.contains i

def Down (l : List DOp) (S : List Nat) : Prop := ∀ j ∈ S, ∀ y, l[j]? = some y → ∀ a ∈ y.after, a ∈ S

theorem closeT_spec {l : List DOp} {S : List Nat} (hS : Down l S) : ∀ (r : List DOp) (acc : List (List Nat)), (∀ k, r[k]? = l[acc.length + k]?) → (∀ (j : Nat) (y : DOp), j < acc.length → l[j]? = some y → (∀ a ∈ y.after, a ∈ S) → ∀ i ∈ acc.getD j [], i ∈ S) →
    ∀ (j : Nat) (y : DOp), l[j]? = some y → (∀ a ∈ y.after, a ∈ S) → ∀ i ∈ (closeT r acc).getD j [], i ∈ S
  | [], acc, hr, hacc, j, y, hj, ha => by
    have hlt : j < acc.length := by
      rcases Nat.lt_or_ge j acc.length with h | h
      · exact h
      · have := hr (j - acc.length)
        rw [show acc.length + (j - acc.length) = j by omega, hj] at this
        simp at this
    exact hacc j y hlt hj ha
  | d :: r, acc, hr, hacc, j, y, hj, ha => by
    simp only [closeT]
    refine closeT_spec hS r _ (fun k => ?_) (fun j' y' hj' hy' ha' => ?_) j y hj ha
    · have := hr (k + 1)
      simp only [List.getElem?_cons_succ] at this
      rw [this]
      congr 1
      simp
      omega
    · simp at hj'
      rcases Nat.lt_or_ge j' acc.length with h | h
      · intro i hi
        rw [List.getD_eq_getElem?_getD, List.getElem?_append_left h, ← List.getD_eq_getElem?_getD] at hi
        exact hacc j' y' h hy' ha' i hi
      · have hje : j' = acc.length := by omega
        subst hje
        have hd : l[acc.length]? = some d := by
          have := hr 0
          simpa using this.symm
        rw [hy'] at hd
        cases hd
        intro i hi
        rw [List.getD_eq_getElem?_getD, List.getElem?_append_right (Nat.le_refl _)] at hi
        simp only [Nat.sub_self, List.getElem?_cons_zero, Option.getD_some] at hi
        rw [List.mem_eraseDups, List.mem_append, List.mem_flatMap] at hi
        rcases hi with hi | ⟨a, h1, h2⟩
        · exact ha' i hi
        · have haS := ha' a h1
          rcases Nat.lt_or_ge a acc.length with h3 | h3
          · cases hla : l[a]? with
            | none =>
              rw [List.getElem?_eq_none_iff] at hla
              have : acc.length < l.length := (List.getElem?_eq_some_iff.1 hy').1
              omega
            | some ya => exact hacc a ya h3 hla (hS a haS ya hla) i h2
          · rw [List.getD_eq_getElem?_getD, List.getElem?_eq_none h3] at h2
            simp at h2

structure Chk (md : Nat → Mode) (dr : List Nat) (l : List DOp) : Prop where
  kind : ∀ (j : Nat) (y : DOp), l[j]? = some y → y.one = true
  back : ∀ (j : Nat) (y : DOp), l[j]? = some y → ∀ a ∈ y.after, a < j
  pair : ∀ (i j : Nat) (x y : DOp), i < j → l[i]? = some x → l[j]? = some y → i ∈ (closeT l []).getD j [] ∨ okPair md dr l x y = true
  news : ∀ (i j : Nat) (x y : DOp), i < j → l[i]? = some x → l[j]? = some y → x.isNF l = true ∨ y.isNF l = true → x.ins.dst ≠ y.ins.dst

theorem chk_of {md : Nat → Mode} {dr : List Nat} {l : List DOp} (h : drwOk md dr l = true) : Chk md dr l := by
  unfold drwOk pairsOk at h
  rw [List.all_eq_true] at h
  have get : ∀ (j : Nat) (y : DOp), l[j]? = some y → (y.one && y.after.all (· < j) &&
      (List.range j).all fun i => match l[i]? with
        | some x => (((closeT l []).getD j []).contains i || okPair md dr l x y) && (!(x.isNF l || y.isNF l) || x.ins.dst != y.ins.dst)
        | none => false) = true := fun j y hy => by
    have := h j (List.mem_range.2 (List.getElem?_eq_some_iff.1 hy).1)
    rw [hy] at this
    exact this
  refine ⟨fun j y hy => ?_, fun j y hy a ha => ?_, fun i j x y hij hx hy => ?_, fun i j x y hij hx hy hn => ?_⟩
  · have := get j y hy
    simp only [Bool.and_eq_true, Bool.or_eq_true] at this
    exact this.1.1
  · have := get j y hy
    simp only [Bool.and_eq_true, List.all_eq_true] at this
    simpa using this.1.2 a ha
  · have := get j y hy
    rw [Bool.and_eq_true, List.all_eq_true] at this
    have := this.2 i (List.mem_range.2 hij)
    rw [hx] at this
    simp only [Bool.and_eq_true, Bool.or_eq_true] at this
    rcases this.1 with h1 | h1
    · exact .inl (by simpa using h1)
    · exact .inr h1
  · have := get j y hy
    rw [Bool.and_eq_true, List.all_eq_true] at this
    have := this.2 i (List.mem_range.2 hij)
    rw [hx] at this
    simp only [Bool.and_eq_true] at this
    have h2 := this.2
    rcases hn with hn | hn <;> simpa [hn] using h2

theorem remOf_cons {n i : Nat} {S pre post : List Nat} (h : remOf n S = pre ++ i :: post) : remOf n (i :: S) = pre ++ post := by
  have e : remOf n (i :: S) = (remOf n S).filter (fun k => k != i) := by
    unfold remOf
    rw [List.filter_filter]
    apply List.filter_congr
    intro k _
    simp only [List.contains_cons, Bool.not_or]
    rfl
  have hnd : (remOf n S).Nodup := List.nodup_range.filter _
  rw [e, h]
  rw [h] at hnd
  rw [List.nodup_append] at hnd
  obtain ⟨h1, h2, h3⟩ := hnd
  rw [List.nodup_cons] at h2
  rw [List.filter_append, List.filter_cons]
  simp only [bne_self_eq_false, Bool.false_eq_true, if_false]
  rw [List.filter_eq_self.2 (fun a ha => by simpa using h3 a ha i (by simp)), List.filter_eq_self.2 (fun a ha => by simp; rintro rfl; exact h2.1 ha)]

theorem remOf_lt {n i : Nat} {S pre post : List Nat} (h : remOf n S = pre ++ i :: post) : (∀ a ∈ pre, a < i) ∧ (∀ k, k < i → k ∉ pre → k ∈ S) ∧ i < n ∧ i ∉ S := by
  have hs : (remOf n S).Pairwise (· < ·) := List.pairwise_lt_range.filter _
  have hmem : ∀ k, k ∈ remOf n S ↔ k < n ∧ k ∉ S := fun k => by simp [remOf]
  rw [h] at hs
  rw [List.pairwise_append] at hs
  obtain ⟨h1, h2, h3⟩ := hs
  rw [List.pairwise_cons] at h2
  have hi := (hmem i).1 (by rw [h]; simp)
  refine ⟨fun a ha => h3 a ha i (by simp), fun k hk hp => ?_, hi.1, hi.2⟩
  apply Classical.byContradiction
  intro hS
  have := (hmem k).2 ⟨by omega, hS⟩
  rw [h] at this
  rcases List.mem_append.1 this with h4 | h4
  · exact hp h4
  · rcases List.mem_cons.1 h4 with h5 | h5
    · omega
    · have := h2.1 k h5; omega

theorem adm0_new (l : List DOp) {d : DOp} {e : Env} {σ : St} {R : V → St → Prop} (h : Adm0 K cx n0 ks d e σ R) : Adm0 K cx n0 ks d e σ fun v s => R v s ∧ (d.isNew = true → v = .ref (n0 + d.al) 0) ∧ (∀ s q, d.faOf l = some (s, q) → ∀ r ∈ dref v, r ∈ dref (e.get q)) := by
  cases hn : d.isNew with
  | false =>
    cases hf : d.faOf l with
    | none => exact h.mono fun v s hv => ⟨hv, (fun h => by cases h), (fun s q h => by cases h)⟩
    | some p =>
      obtain ⟨s, q⟩ := p
      obtain ⟨hg, ⟨k, hi⟩, _⟩ := faOf_inv hf
      have hN : d.isN cx.mode = true := by simp [DOp.isN, hi]
      rw [Adm_N hN] at h ⊢
      unfold AdmN at h ⊢
      rw [hg, hi] at h ⊢
      simp only [gsel, nGo] at h ⊢
      split
      · rename_i v hv
        rw [hv] at h
        refine ⟨h, (fun h => by cases h), fun s' q' h' r hr => ?_⟩
        cases h'
        simp only [evalP, Opd.ev] at hv
        unfold faddrV at hv
        split at hv
        · rename_i r0 o0 hq
          cases hv
          rw [hq]
          exact hr
        · rename_i cs hq
          split at hv
          · cases hv; simp [dref] at hr
          · cases hv
        · cases hv
      · rename_i hv; rw [hv] at h; exact h
  | true =>
    have hfa : d.faOf l = none := by
      obtain ⟨_, s, op, hi, _⟩ := isNew_inv hn
      simp [DOp.faOf, hi]
    have hE : d.isNew = true ∨ d.isSto [] = true := .inl hn
    rw [Adm0_E hE] at *
    obtain ⟨hg, dst, op, v, s, h1, h2, h3, h4⟩ := h
    exact ⟨hg, dst, op, v, s, h1, h2, h3, h4, fun _ => (new_low hn h1 h2).1, fun s q h => by rw [hfa] at h; cases h⟩

theorem adm_new (l : List DOp) {d : DOp} {e : Env} {σ : St} {R : V → St → Prop} (h : Adm K cx n0 ks d e σ R) : Adm K cx n0 ks d e σ fun v s => R v s ∧ (d.isNew = true → v = .ref (n0 + d.al) 0) ∧ (∀ s q, d.faOf l = some (s, q) → ∀ r ∈ dref v, r ∈ dref (e.get q)) := ⟨h.1, adm0_new l h.2⟩

theorem inv_step {md : Nat → Mode} {dr : List Nat} {l : List DOp} (hc : Chk md dr l) {S : List Nat} {e : Env} (hi : Inv l n0 S e) {i : Nat} {x : DOp} (hx : l[i]? = some x) (hS : i ∉ S) {v : V} (hv : (x.isNew = true → v = .ref (n0 + x.al) 0) ∧ (∀ s q, x.faOf l = some (s, q) → ∀ r ∈ dref v, r ∈ dref (e.get q))) : Inv l n0 (i :: S) (putE e x.ins.dst v) := by
  refine ⟨fun s hs r hr => ?_, fun m hm d hd hn s hs => ?_, fun m hm d hd s q hf => ?_⟩
  · rw [get_put_ne (hs x (List.mem_of_getElem? hx))] at hr
    exact hi.low s hs r hr
  · rcases List.mem_cons.1 hm with rfl | hm
    · rw [hx] at hd
      cases hd
      rw [hv.1 hn]
      rw [hs]
      simp [putE, Env.get_set]
    · have hne : m ≠ i := fun e => hS (e ▸ hm)
      have hdst : x.ins.dst ≠ some s := by
        rcases Nat.lt_or_ge m i with h | h
        · have := hc.news m i d x h hd hx (.inl (by simp [DOp.isNF, hn]))
          rw [hs] at this
          exact fun e => this e.symm
        · have := hc.news i m x d (by omega) hx hd (.inr (by simp [DOp.isNF, hn]))
          rw [hs] at this
          exact this
      rw [get_put_ne hdst]
      exact hi.new m hm d hd hn s hs
  · obtain ⟨hg, ⟨k, hdi⟩, hq⟩ := faOf_inv hf
    rw [get_put_ne (hq x (List.mem_of_getElem? hx))]
    have hs : d.ins.dst = some s := by rw [hdi]; rfl
    rcases List.mem_cons.1 hm with rfl | hm
    · rw [hx] at hd
      cases hd
      rw [hs]
      simp only [putE, Env.get_set, if_true]
      exact hv.2 s q hf
    · have hne : m ≠ i := fun e => hS (e ▸ hm)
      have hnf : d.isNF l = true := by simp [DOp.isNF, hf]
      have hdst : x.ins.dst ≠ some s := by
        rcases Nat.lt_or_ge m i with h | h
        · have := hc.news m i d x h hd hx (.inl hnf)
          rw [hs] at this
          exact fun e => this e.symm
        · have := hc.news i m x d (by omega) hx hd (.inr hnf)
          rw [hs] at this
          exact this
      rw [get_put_ne hdst]
      exact hi.fa m hm d hd s q hf

theorem bubble {l : List DOp} (hc : Chk cx.mode cx.dry l) (hks : ∀ s ∈ ks, ∀ d ∈ l, d.ins.dst ≠ some s) (hkeep : ∀ d ∈ l, d.isP = true → d.isB = false → d.near l cx.dry = true → ∀ s ∈ d.reads, ∀ q, rootD l d s = some q → q ∈ ks) {Q : Env → St → Prop} (hq : Ext Q) {j : Nat} {y : DOp} (hy : l[j]? = some y) (post : List Nat) : ∀ (pre S : List Nat), remOf l.length S = pre ++ j :: post → Down l S → (∀ a ∈ y.after, a ∈ S) → ∀ (e : Env) (σ : St), Inv l n0 S e →
    wtx K cx n0 ks (sel l (pre ++ j :: post)) e σ Q → Adm K cx n0 ks y e σ fun u s => wtx K cx n0 ks (sel l (pre ++ post)) (putE e y.ins.dst u) s Q
  | [], S, hrem, hdown, haf, e, σ, hi, h => by
    simp only [List.nil_append, sel, List.filterMap_cons, hy, wtx] at h
    exact h
  | i :: pre, S, hrem, hdown, haf, e, σ, hi, h => by
    have hl := remOf_lt (pre := []) (i := i) (post := pre ++ j :: post) (by simpa using hrem)
    have hlj := remOf_lt hrem
    obtain ⟨x, hx⟩ : ∃ x, l[i]? = some x := ⟨l[i]'hl.2.2.1, by simp [hl.2.2.1]⟩
    have hij : i < j := hlj.1 i (by simp)
    have hafx : ∀ a ∈ x.after, a ∈ S := fun a ha => hl.2.1 a (hc.back i x hx a ha) (by simp)
    have hrem' : remOf l.length (i :: S) = pre ++ j :: post := by
      have := remOf_cons (pre := []) (i := i) (post := pre ++ j :: post) (by simpa using hrem)
      simpa using this
    have hdown' : Down l (i :: S) := fun k hk z hz a ha => by
      rcases List.mem_cons.1 hk with rfl | hk
      · rw [hx] at hz; cases hz; exact List.mem_cons_of_mem _ (hafx a ha)
      · exact List.mem_cons_of_mem _ (hdown k hk z hz a ha)
    simp only [List.cons_append, sel, List.filterMap_cons, hx, wtx] at h ⊢
    have h1 := (adm_new l h).mono fun v s hv => bubble hc hks hkeep hq hy post pre (i :: S) hrem' hdown' (fun a ha => List.mem_cons_of_mem _ (haf a ha)) _ _ (inv_step hc hi hx hl.2.2.2 hv.2) hv.1
    have hok : okPair cx.mode cx.dry l x y = true := by
      refine (hc.pair i j x y hij hx hy).resolve_left fun hT => ?_
      exact hl.2.2.2 (closeT_spec hdown l [] (fun k => by simp) (fun j y hj => by simp at hj) j y hy haf i hT)
    exact exchange hok hks hkeep (List.mem_of_getElem? hx) (List.mem_of_getElem? hy) hi hafx haf (wtx_ext hq _) h1

theorem text_any {cx' : Cx} {l : List DOp} (hc : Chk cx.mode cx.dry l) (hks : ∀ s ∈ ks, ∀ d ∈ l, d.ins.dst ≠ some s) (hkeep : ∀ d ∈ l, d.isP = true → d.isB = false → d.near l cx.dry = true → ∀ s ∈ d.reads, ∀ q, rootD l d s = some q → q ∈ ks) {Q : Env → St → Prop} (hq : Ext Q) : ∀ (fuel : Nat) (S : List Nat), (remOf l.length S).length = fuel → Down l S → ∀ (e : Env) (σ : St), Inv l n0 S e → wtx K cx n0 ks (sel l (remOf l.length S)) e σ Q → wany K cx' n0 l fuel S e σ Q
  | 0, S, hf, hdown, e, σ, hi, h => by
    have hr : remOf l.length S = [] := List.eq_nil_of_length_eq_zero hf
    rw [hr] at h
    refine ⟨?_, h⟩
    unfold readyD
    rw [List.filter_eq_nil_iff]
    intro k hk hb
    have : k ∈ remOf l.length S := by
      simp only [Bool.and_eq_true] at hb
      exact List.mem_filter.2 ⟨hk, hb.1⟩
    rw [hr] at this
    cases this
  | fuel + 1, S, hf, hdown, e, σ, hi, h => by
    refine ⟨fun hr => ?_, fun i hir => ?_⟩
    · exfalso
      cases hrem : remOf l.length S with
      | nil => rw [hrem] at hf; simp at hf
      | cons i r =>
        have hl := remOf_lt (pre := []) (i := i) (post := r) (by simpa using hrem)
        obtain ⟨x, hx⟩ : ∃ x, l[i]? = some x := ⟨l[i]'hl.2.2.1, by simp [hl.2.2.1]⟩
        have : i ∈ readyD l S := by
          unfold readyD
          refine List.mem_filter.2 ⟨List.mem_range.2 hl.2.2.1, ?_⟩
          rw [hx]
          simp only [Option.map_some, Option.getD_some, Bool.and_eq_true, List.all_eq_true]
          exact ⟨by simpa using hl.2.2.2, fun a ha => by simpa using hl.2.1 a (hc.back i x hx a ha) (by simp)⟩
        rw [hr] at this
        cases this
    · unfold readyD at hir
      obtain ⟨h1, h2⟩ := List.mem_filter.1 hir
      have hlt := List.mem_range.1 h1
      have hx : l[i]? = some l[i] := by simp [hlt]
      rw [hx] at h2
      simp only [Option.map_some, Option.getD_some, Bool.and_eq_true, List.all_eq_true] at h2
      obtain ⟨h3, h4⟩ := h2
      have haf : ∀ a ∈ l[i].after, a ∈ S := fun a ha => by simpa using h4 a ha
      have hnS : i ∉ S := by simpa using h3
      have hmem : i ∈ remOf l.length S := List.mem_filter.2 ⟨h1, h3⟩
      obtain ⟨pre, post, hrem⟩ := List.append_of_mem hmem
      refine ⟨l[i], hx, adm_wdop (cx := cx) (ks := ks) (hc.kind i _ hx) ?_⟩
      rw [hrem] at h
      refine (adm_new l (bubble hc hks hkeep hq hx post pre S hrem hdown haf e σ hi h)).mono fun v s hv => ?_
      refine text_any hc hks hkeep hq fuel (i :: S) ?_ ?_ _ _ (inv_step hc hi hx hnS hv.2) ?_
      · rw [remOf_cons hrem]
        rw [hrem] at hf
        simp at hf ⊢
        omega
      · intro k hk z hz a ha
        rcases List.mem_cons.1 hk with rfl | hk
        · rw [hx] at hz; cases hz; exact List.mem_cons_of_mem _ (haf a ha)
        · exact List.mem_cons_of_mem _ (hdown k hk z hz a ha)
      · rw [remOf_cons hrem]
        exact hv.1

theorem sel_range (p : List DOp) : ∀ (l : List DOp), (List.range' p.length l.length).filterMap (fun i => (p ++ l)[i]?) = l
  | [] => rfl
  | x :: r => by
    rw [List.length_cons, List.range'_succ, List.filterMap_cons]
    have h1 : (p ++ x :: r)[p.length]? = some x := by simp
    rw [h1]
    have := sel_range (p ++ [x]) r
    simp only [List.length_append, List.length_cons, List.length_nil, List.append_assoc, List.cons_append, List.nil_append] at this
    simp only [this]

theorem sel_all (l : List DOp) : sel l (remOf l.length []) = l := by
  have : remOf l.length [] = List.range l.length := by
    unfold remOf
    exact List.filter_eq_self.2 (fun a _ => by simp)
  rw [this, List.range_eq_range']
  exact sel_range [] l

/-- THE LAW: a region that draws its order, taken in the order of its text. -/
theorem wdrw {cx' : Cx} {ks : List Nat} {na : Nat} {l : List DOp} (hC : drwOk cx.mode cx.dry l = true) {e : Env} {σ : St} {Q : PostC} (h : wtx K cx σ.objs.length (keepOf cx.dry l) l e (σ.room na) fun e' σ' => Q .normal (e'.pick ks) σ') : wcode K cx' (.drw ks na l) e σ Q := by
  simp only [wcode]
  intro hok
  have hc := chk_of hC
  have hl : (remOf l.length []).length = l.length := by
    have : remOf l.length [] = List.range l.length := by
      unfold remOf
      exact List.filter_eq_self.2 (fun a _ => by simp)
    rw [this, List.length_range]
  have hks : ∀ s ∈ keepOf cx.dry l, ∀ d ∈ l, d.ins.dst ≠ some s := fun s hs d hd => by
    unfold keepOf at hs
    obtain ⟨d', hd', hs'⟩ := List.mem_flatMap.1 hs
    obtain ⟨s0, _, hs0⟩ := List.mem_filterMap.1 hs'
    unfold rootD at hs0
    split at hs0
    · rename_i h1
      cases hs0
      exact all_ne h1 d hd
    · obtain ⟨m, hm, h1⟩ := List.exists_of_findSome?_eq_some hs0
      split at h1
      · split at h1
        · rename_i hf
          split at h1
          · cases h1; exact (faOf_inv hf).2.2 d hd
          · cases h1
        · cases h1
      · cases h1
  have hkeep : ∀ d ∈ l, d.isP = true → d.isB = false → d.near l cx.dry = true → ∀ s ∈ d.reads, ∀ q, rootD l d s = some q → q ∈ keepOf cx.dry l := fun d hd h1 h2 h3 s hs q hq =>
    List.mem_flatMap.2 ⟨d, List.mem_filter.2 ⟨hd, by simp [h1, h2, h3]⟩, List.mem_filterMap.2 ⟨s, hs, hq⟩⟩
  refine text_any (ks := keepOf cx.dry l) hc hks hkeep (fun e e' σ he hq => ?_) l.length [] hl (fun j hj => by cases hj) e _ ⟨fun s _ r hr => hok s r hr, (fun m hm => by cases hm), (fun m hm => by cases hm)⟩ (by rw [sel_all]; exact h)
  have : e.pick ks = e'.pick ks := by
    unfold Env.pick
    exact List.map_congr_left fun k _ => by rw [he k]
  rw [← this]
  exact hq

end Go.Dn
