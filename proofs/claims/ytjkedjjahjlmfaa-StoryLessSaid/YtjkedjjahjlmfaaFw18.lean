/- Writes into objects. -/
import Derived.Test.YtjkedjjahjlmfaaFw17
namespace Go.Dn
open Go.Lib
set_option linter.unusedVariables false
set_option linter.unusedSimpArgs false

variable {P : Program} {g : Gh} {σ : St} {tk : List Nat} {w : World}

/-- A block put in another's place. -/
def putB (w : World) (b : Nat) (o : Go.Obj) : World := { w with heap := w.heap.setIfInBounds b o }

theorem putB_same (w : World) {b : Nat} (o : Go.Obj) (h : b < w.heap.size) : (putB w b o).heap[b]? = some o := by simp [putB, h]
theorem putB_other (w : World) {b b' : Nat} (o : Go.Obj) (h : b ≠ b') : (putB w b o).heap[b']? = w.heap[b']? := by simp [putB, Array.getElem?_setIfInBounds_ne h]
theorem putB_putB (w : World) (b : Nat) (o o' : Go.Obj) : putB (putB w b o) b o' = putB w b o' := by
  simp [putB]
theorem putB_cell (w : World) {b b' : Nat} (o : Go.Obj) (h : b ≠ b') (q : Nat) : (putB w b o).cell? ⟨b', q, none⟩ = w.cell? ⟨b', q, none⟩ := by
  unfold World.cell?
  rw [putB_other w o h]

theorem oneC_cell {v : Value} (h : oneC v = true) : v.oneCell' = true := by
  cases v <;> simp [oneC] at h <;> rfl

theorem setCell_putB {b o : Nat} {c : Array Value} {e : TypeId} {fz : Nat × Nat} (h : w.heap[b]? = some (.cells c e fz)) (v : Value) :
    w.setCell ⟨b, o, none⟩ v = putB w b (.cells (c.setIfInBounds o v) e fz) := by
  have hlt := block_lt h
  have hb : w.heap[b] = .cells c e fz := by simpa [hlt] using h
  unfold World.setCell putB
  congr 1
  apply Array.ext_getElem?
  intro i
  rw [Array.getElem?_modify, Array.getElem?_setIfInBounds]
  by_cases hi : b = i
  · subst hi
    simp [hlt, hb]
  · simp [hi]

theorem run_storeCells_own (b o : Nat) (e : TypeId) (fz : Nat × Nat) : ∀ (vs : List Value) (i : Nat) (c : Array Value) (w : World), w.heap[b]? = some (.cells c e fz) → NoFz c fz → o + i + vs.length ≤ c.size → (∀ v ∈ vs, oneC v = true) →
    (storeCells ⟨b, o, none⟩ vs i).run P w = .ok () (putB w b (.cells (splice c.toList (o + i) vs).toArray e fz))
  | [], i, c, w, h, hn, hl, h1 => by
    have : putB w b (.cells (splice c.toList (o + i) []).toArray e fz) = w := by
      have hlt := block_lt h
      have hb : w.heap[b] = .cells c e fz := by simpa [hlt] using h
      unfold putB
      have : (splice c.toList (o + i) []).toArray = c := by simp [splice]
      rw [this]
      have : w.heap.setIfInBounds b (.cells c e fz) = w.heap := by
        apply Array.ext_getElem?
        intro j
        rw [Array.getElem?_setIfInBounds]
        split
        · rename_i hj; subst hj; simp [hlt, hb]
        · rfl
      rw [this]
    rw [this]
    rfl
  | v :: vs, i, c, w, h, hn, hl, h1 => by
    simp only [List.length_cons] at hl
    have hadd : (⟨b, o, none⟩ : Addr).add i = ⟨b, o + i, none⟩ := addr_add b o i
    have hcell : w.cell? ⟨b, o + i, none⟩ = some c[o + i] := by rw [cell_of_block h]; simp [show o + i < c.size by omega]
    have hfz : w.frozen? ⟨b, o + i, none⟩ = false := by
      obtain ⟨lo, hi⟩ := fz
      have := hn (o + i) (by omega)
      simp only [World.frozen?, h]
      by_cases h1 : lo ≤ o + i
      · have h2 : ¬ (o + i < hi) := fun h2 => this ⟨h1, h2⟩
        simp [h1, h2]
      · simp [h1]
    have hst : (store ((⟨b, o, none⟩ : Addr).add i) v).run P w = .ok () (putB w b (.cells (c.setIfInBounds (o + i) v) e fz)) := by
      rw [hadd, run_store P w _ v _ (oneC_cell (h1 v (by simp))), ← setCell_putB h]
      simp [hcell, hfz]
    have hn' : NoFz (c.setIfInBounds (o + i) v) fz := fun q hq => hn q (by simpa using hq)
    have ih := run_storeCells_own b o e fz vs (i + 1) (c.setIfInBounds (o + i) v) (putB w b (.cells (c.setIfInBounds (o + i) v) e fz)) (putB_same w _ (block_lt h)) hn' (by simp; omega) (fun u hu => h1 u (by simp [hu]))
    unfold storeCells
    simp only [Sem.run_bind, hst, Result.andThen_ok, ih, putB_putB]
    congr 4
    apply List.ext_getElem?
    intro k
    rw [splice_get _ _ _ (by simp; omega), splice_get _ _ _ (by simp; omega)]
    simp only [List.length_cons, Array.toList_setIfInBounds]
    by_cases hk : o + (i + 1) ≤ k ∧ k < o + (i + 1) + vs.length
    · rw [if_pos hk, if_pos ⟨by omega, by omega⟩, show k - (o + i) = (k - (o + (i + 1))) + 1 by omega, List.getElem?_cons_succ]
    · rw [if_neg hk]
      by_cases hk2 : k = o + i
      · subst hk2
        rw [if_pos ⟨by omega, by omega⟩, List.getElem?_set_self (by simp; omega)]
        simp
      · rw [if_neg (by omega), List.getElem?_set_ne (fun e => hk2 e.symm)]

theorem Sim.write (hs : Sim g σ w) {r : Nat} {cs cs' : List V} (hr : σ.objs[r]? = some (.cells cs)) (hlen : cs'.length = cs.length) {c c' : Array Value} {e : TypeId} {fz : Nat × Nat} (hb : w.heap[(g.obj r).1]? = some (.cells c e fz)) (hc' : c'.size = c.size)
    (hrel : ∀ (j : Nat) (v : V), cs'[j]? = some v → ∃ cv, c'[(g.obj r).2 + j]? = some cv ∧ oneC cv = true ∧ VR g σ.toks w v cv) :
    Sim g (σ.setObj r (.cells cs')) (putB w (g.obj r).1 (.cells c' e fz)) ∧ Ev g σ w g (σ.setObj r (.cells cs')) (putB w (g.obj r).1 (.cells c' e fz)) := by
  have hrl : r < σ.objs.length := by
    rcases Nat.lt_or_ge r σ.objs.length with h | h
    · exact h
    · rw [List.getElem?_eq_none h] at hr; cases hr
  have hcell : ∀ b q, g.frz b q → (putB w (g.obj r).1 (.cells c' e fz)).cell? ⟨b, q, none⟩ = w.cell? ⟨b, q, none⟩ := fun b q hf =>
    putB_cell w _ (fun e => hs.nofrz r _ hr trivial q (by rw [e]; exact hf)) q
  have hl : Later g σ.toks w g (σ.setObj r (.cells cs')).toks (putB w (g.obj r).1 (.cells c' e fz)) :=
    ⟨⟨fun b q hf => hf, hcell⟩, fun q hq => ⟨hq, rfl, rfl⟩, fun t k ht => ⟨k, ht, Nat.le_refl _, fun _ => rfl, rfl⟩⟩
  have obj : ∀ (q : Nat) (o : Obj), (σ.setObj r (.cells cs')).objs[q]? = some o → (q = r ∧ o = .cells cs') ∨ (q ≠ r ∧ σ.objs[q]? = some o) := by
    intro q o h
    simp only [St.setObj] at h
    by_cases hq : q = r
    · subst hq
      rw [List.getElem?_set_self hrl] at h
      cases h
      exact .inl ⟨rfl, rfl⟩
    · rw [List.getElem?_set_ne (fun e => hq e.symm)] at h
      exact .inr ⟨hq, h⟩
  have old : ∀ (q : Nat) (o : Obj), (σ.setObj r (.cells cs')).objs[q]? = some o → o.live → ∃ o', σ.objs[q]? = some o' ∧ o'.live := by
    intro q o h1 h2
    rcases obj q o h1 with ⟨rfl, rfl⟩ | ⟨_, h⟩
    · exact ⟨_, hr, trivial⟩
    · exact ⟨o, h, h2⟩
  refine ⟨⟨fun q o h1 h2 => ?_, fun q hq => ?_, fun q hq => ?_, fun q cs2 hq => ?_, fun q es hq => ?_, fun q q' o o' h1 h2 h3 h4 hne => ?_, fun q o h1 h2 => ?_, fun t k ht => ?_, hs.tdist, fun t k q o h1 h2 h3 => ?_, fun b q hf => ?_⟩,
    ⟨hl, by simp [putB], rfl, rfl, rfl, fun b hb' hm => ?_, fun b hb' => ?_, fun b q hf => .inl hf⟩⟩
  · obtain ⟨o', h3, h4⟩ := old q o h1 h2
    exact hs.has q o' h3 h4
  · simpa [St.setObj] using hs.bound q hq
  · rcases obj q _ hq with ⟨_, h⟩ | ⟨_, h⟩
    · cases h
    · exact hs.free q h
  · rcases obj q _ hq with ⟨rfl, h⟩ | ⟨hne, h⟩
    · cases h
      obtain ⟨h1, c0, e0, fz0, hb0, hn0, _⟩ := hs.cells q cs hr
      rw [hb] at hb0
      cases hb0
      refine ⟨by rw [hlen]; exact h1, c', e, fz, putB_same w _ (block_lt hb), fun o ho => hn0 o (by omega), fun j v hj => ?_⟩
      obtain ⟨cv, r1, r2, r3⟩ := hrel j v hj
      exact ⟨cv, r1, r2, r3.later hl⟩
    · obtain ⟨h1, c0, e0, fz0, hb0, hn0, hcc⟩ := hs.cells q cs2 h
      have hbne := hs.dist r q _ _ hr trivial h trivial (fun e => hne e.symm)
      refine ⟨h1, c0, e0, fz0, by rw [putB_other w _ hbne]; exact hb0, hn0, fun j v hj => ?_⟩
      obtain ⟨cv, r1, r2, r3⟩ := hcc j v hj
      exact ⟨cv, r1, r2, r3.later hl⟩
  · rcases obj q _ hq with ⟨_, h⟩ | ⟨_, h⟩
    · cases h
    · exact hs.maps q es h
  · obtain ⟨p, a1, a2⟩ := old q o h1 h2
    obtain ⟨p', b1, b2⟩ := old q' o' h3 h4
    exact hs.dist q q' p p' a1 a2 b1 b2 hne
  · obtain ⟨p, a1, a2⟩ := old q o h1 h2
    exact hs.nofrz q p a1 a2
  · obtain ⟨h0, c0, e0, fz0, hb0, hn0, hsz, hf⟩ := hs.tok t k ht
    have hbne := hs.tobj t k r _ ht hr trivial
    exact ⟨h0, c0, e0, fz0, by rw [putB_other w _ (fun e => hbne e.symm)]; exact hb0, hn0, hsz, hf⟩
  · obtain ⟨p, a1, a2⟩ := old q o h2 h3
    exact hs.tobj t k q p h1 a1 a2
  · obtain ⟨v, hv⟩ := hs.frzb b q hf
    exact ⟨v, by rw [hcell b q hf]; exact hv⟩
  · exact putB_other w _ (fun e => hm (.inl ⟨r, _, hr, trivial, e⟩))
  · left
    rcases hb' with ⟨q, o, h1, h2, rfl⟩ | h
    · obtain ⟨p, a1, a2⟩ := old q o h1 h2
      exact .inl ⟨q, p, a1, a2, rfl⟩
    · exact .inr h

/-- Cells spliced into an object's block. -/
theorem Sim.splice (hs : Sim g σ w) {r : Nat} {cs : List V} (hr : σ.objs[r]? = some (.cells cs)) {off : Nat} {xs : List V} {us : List Value} (hx : VRs g σ.toks w xs us) (h1 : ∀ u ∈ us, oneC u = true) (hoff : off + xs.length ≤ cs.length) :
    ∃ w' : World, (storeCells ⟨(g.obj r).1, (g.obj r).2 + off, none⟩ us).run P w = .ok () w' ∧ Sim g (σ.setObj r (.cells (Dn.splice cs off xs))) w' ∧ Ev g σ w g (σ.setObj r (.cells (Dn.splice cs off xs))) w' := by
  obtain ⟨hl, c, e, fz, hb, hn, hc⟩ := hs.cells r cs hr
  have hul : us.length = xs.length := hx.length.symm
  have hsz : (g.obj r).2 + cs.length ≤ c.size ∨ cs.length = 0 := by
    rcases Nat.eq_zero_or_pos cs.length with h | h
    · exact .inr h
    · left
      obtain ⟨v, hv⟩ : ∃ v, cs[cs.length - 1]? = some v := ⟨cs[cs.length - 1], by simp [show cs.length - 1 < cs.length by omega]⟩
      obtain ⟨cv, h1, _⟩ := hc _ v hv
      have := (Array.getElem?_eq_some_iff.1 h1).1
      omega
  by_cases hz : cs.length = 0
  · have hx0 : xs = [] := List.eq_nil_of_length_eq_zero (by omega)
    have hu0 : us = [] := List.eq_nil_of_length_eq_zero (by omega)
    subst hx0 hu0
    have e1 : Dn.splice cs off [] = cs := by simp [Dn.splice]
    have e2 : σ.setObj r (.cells cs) = σ := by
      unfold St.setObj
      have : σ.objs.set r (.cells cs) = σ.objs := by
        apply List.ext_getElem?
        intro i
        by_cases hi : i = r
        · subst hi
          rw [hr, List.getElem?_set_self]
          exact (List.getElem?_eq_some_iff.1 hr).1
        · rw [List.getElem?_set_ne (fun e => hi e.symm)]
      rw [this]
    rw [e1, e2]
    exact ⟨w, rfl, hs, Ev.refl _ _ _⟩
  · have hsz := hsz.resolve_right hz
    have hrun := run_storeCells_own (P := P) (g.obj r).1 ((g.obj r).2 + off) e fz us 0 c w hb hn (by omega) h1
    rw [Nat.add_zero] at hrun
    have hw := hs.write hr (cs' := Dn.splice cs off xs) (splice_length _ _ _ hoff) hb (c' := (Dn.splice c.toList ((g.obj r).2 + off) us).toArray) (by rw [List.size_toArray, splice_length c.toList ((g.obj r).2 + off) us (by simp; omega)]; simp) (fun j v hj => by
      rw [splice_get _ _ _ hoff] at hj
      simp only [List.getElem?_toArray]
      rw [splice_get _ _ _ (by simp; omega)]
      split at hj
      · rename_i hin
        rw [if_pos ⟨by omega, by omega⟩]
        have hju : j - off < us.length := by omega
        refine ⟨us[j - off], by rw [show (g.obj r).2 + j - ((g.obj r).2 + off) = j - off by omega]; simp [hju], h1 _ (by simp), ?_⟩
        exact hx.get (j - off) v _ hj (by simp [hju])
      · rename_i hout
        rw [if_neg (by omega)]
        obtain ⟨cv, r1, r2, r3⟩ := hc j v hj
        exact ⟨cv, by simpa using r1, r2, r3⟩)
    exact ⟨_, hrun, hw.1, hw.2⟩

theorem store_rel (hs : Sim g σ w) {t : TypeId} (hok : hasInfo P t = true) {x y : V} {cx cy : Value} (hx : VR g σ.toks w x cx) (hy : VR g σ.toks w y cy) {r off : Nat} (hxr : x = .ref r off) {cs l : List V} (hr : σ.objs[r]? = some (.cells cs)) (hl : y.cells = some l)
    (hn : l.length = P.cellsOf t) (hoff : off + P.cellsOf t ≤ cs.length) :
    ∃ w', (Instr.storeAt t cx cy).run P w = .ok () w' ∧ Sim g (σ.setObj r (.cells (Dn.splice cs off l))) w' ∧ Ev g σ w g (σ.setObj r (.cells (Dn.splice cs off l))) w' := by
  subst hxr
  cases hx with
  | ref _ _ hh =>
    obtain ⟨h1, h2⟩ := hy.cells hl
    obtain ⟨w', r1, r2⟩ := hs.splice (P := P) (off := off) hr h1 h2 (by omega)
    refine ⟨w', ?_, r2⟩
    have hcs : cy.cells.size = P.cellsOf t := by rw [← hn, h1.length]; simp
    simp only [Instr.storeAt, Instr.sureAddr, Sem.run_bind, Sem.run_pure, Result.andThen_ok, storeVar, hasInfo_size hok, hcs, ne_eq, not_true_eq_false, if_false]
    exact r1

end Go.Dn
