/- New objects; writes into objects. -/
import Derived.Test.YtjkedjjahjlmfaaFw16
namespace Go.Dn
open Go.Lib
set_option linter.unusedVariables false
set_option linter.unusedSimpArgs false

variable {P : Program} {g : Gh} {σ : St} {tk : List Nat} {w : World}

def Gh.add (g : Gh) (r b n : Nat) : Gh :=
  { g with has := fun q => g.has q ∨ q = r, obj := fun q => if q = r then (b, 0) else g.obj q, len := fun q => if q = r then n else g.len q }

theorem place_inv {tg : Option Nat} {o : Obj} {σ' : St} (h : σ.place tg o = some σ') :
    σ'.toks = σ.toks ∧ (∀ q, q ≠ σ.spot tg → σ'.objs[q]? = σ.objs[q]?) ∧ σ'.objs[σ.spot tg]? = some o ∧ σ.objs.length ≤ σ'.objs.length ∧ (σ.objs[σ.spot tg]? = none ∨ σ.objs[σ.spot tg]? = some .free) := by
  unfold St.place at h
  cases tg with
  | none =>
    simp only [Option.some.injEq] at h
    subst h
    refine ⟨rfl, fun q hq => ?_, ?_, by simp [St.push], ?_⟩
    · simp only [St.spot] at hq
      simp only [St.push]
      rcases Nat.lt_or_ge q σ.objs.length with h | h
      · rw [List.getElem?_append_left h]
      · rw [List.getElem?_eq_none (by simp; omega), List.getElem?_eq_none h]
    · simp [St.push, St.spot]
    · left; simp [St.spot]
  | some r =>
    simp only at h
    split at h
    · rename_i hr
      simp only [Option.some.injEq] at h
      subst h
      have hlt : r < σ.objs.length := by
        rcases Nat.lt_or_ge r σ.objs.length with h | h
        · exact h
        · rw [List.getElem?_eq_none h] at hr; cases hr
      refine ⟨rfl, fun q hq => ?_, ?_, by simp [St.setObj], .inr hr⟩
      · simp only [St.spot] at hq
        simp only [St.setObj]
        rw [List.getElem?_set_ne (fun e => hq e.symm)]
      · simp [St.setObj, St.spot, hlt]
    · cases h

theorem Sim.new_obj2 (hs : Sim g σ w) {tg : Option Nat} {cs : List V} {σ' : St} (hp : σ.place tg (.cells cs) = some σ') {c : Array Value} {e : TypeId} {us : List Value} (hr : VRs g σ.toks w cs us) (ho : ∀ v ∈ us, oneC v = true) (hus : ∀ (j : Nat) (v : Value), us[j]? = some v → c[j]? = some v)
    {w' : World} (hw : Grown1 w (.cells c e) w') :
    Sim (g.add (σ.spot tg) w.heap.size cs.length) σ' w' ∧ Ev g σ w (g.add (σ.spot tg) w.heap.size cs.length) σ' w' := by
  obtain ⟨p1, p2, p3, p4, p5⟩ := place_inv hp
  have hnh : ¬ g.has (σ.spot tg) := by
    intro hh
    rcases p5 with h | h
    · have := hs.bound _ hh
      rw [List.getElem?_eq_none_iff] at h
      omega
    · exact hs.free _ h hh
  have hcell : ∀ b q, g.frz b q → w'.cell? ⟨b, q, none⟩ = w.cell? ⟨b, q, none⟩ := fun b q hf => by
    obtain ⟨v, hv⟩ := hs.frzb b q hf
    exact hw.cell (cell_lt hv) q
  have keep : ∀ r, g.has r → r ≠ σ.spot tg := fun r hr e => hnh (e ▸ hr)
  have hl : Later g σ.toks w (g.add (σ.spot tg) w.heap.size cs.length) σ'.toks w' := by
    refine ⟨⟨fun b q hf => hf, hcell⟩, fun r hr => ⟨.inl hr, ?_, ?_⟩, fun t k ht => ⟨k, by rw [p1]; exact ht, Nat.le_refl _, fun _ => rfl, rfl⟩⟩
    · simp [Gh.add, keep r hr]
    · simp [Gh.add, keep r hr]
  have hlt : ∀ (r : Nat) (o : Obj), σ.objs[r]? = some o → o.live → (g.obj r).1 < w.heap.size := by
    intro r o h1 h2
    cases o with
    | cells cs' => obtain ⟨_, c', e', fz', hb, _⟩ := hs.cells r cs' h1; exact block_lt hb
    | map es => exact (hs.maps r es h1).elim
    | dead => exact h2.elim
    | free => exact h2.elim
  refine ⟨⟨fun r o h1 h2 => ?_, fun r hr => ?_, fun r hr => ?_, fun r cs' hr' => ?_, fun r es hr' => ?_, fun r r' o o' h1 h2 h3 h4 hne => ?_, fun r o h1 h2 q => ?_, fun t k ht => ?_, fun t t' k k' h1 h2 h3 => ?_, fun t k r o h1 h2 h3 => ?_, fun b q hf => ?_⟩,
    ⟨hl, by rw [hw.size]; omega, hw.os, hw.tape, hw.output, fun b hb _ => hw.old hb, fun b hb => ?_, fun b q hf => .inl hf⟩⟩
  · by_cases hq : r = σ.spot tg
    · exact .inr hq
    · exact .inl (hs.has r o (by rw [← p2 r hq]; exact h1) h2)
  · rcases hr with hr | rfl
    · exact Nat.lt_of_lt_of_le (hs.bound r hr) p4
    · rcases Nat.lt_or_ge (σ.spot tg) σ'.objs.length with h | h
      · exact h
      · rw [List.getElem?_eq_none h] at p3; cases p3
  · intro hh
    by_cases hq : r = σ.spot tg
    · subst hq; rw [p3] at hr; cases hr
    · rcases hh with hh | hh
      · exact hs.free r (by rw [← p2 r hq]; exact hr) hh
      · exact hq hh
  · by_cases hq : r = σ.spot tg
    · subst hq
      rw [p3] at hr'
      cases hr'
      refine ⟨by simp [Gh.add], c, e, (0, 0), by simp [Gh.add, hw.new], fun o h => by omega, fun j v hj => ?_⟩
      have hj' : j < cs.length := by
        rcases Nat.lt_or_ge j cs.length with h | h
        · exact h
        · rw [List.getElem?_eq_none h] at hj; cases hj
      have hju : j < us.length := by have := hr.length; omega
      have huj : us[j]? = some us[j] := by simp [hju]
      refine ⟨us[j], by simpa [Gh.add] using hus j _ huj, ho _ (by simp), ?_⟩
      exact (hr.get j v us[j] hj huj).later hl
    · obtain ⟨h1, c', e', fz', hb, hn, hc⟩ := hs.cells r cs' (by rw [← p2 r hq]; exact hr')
      refine ⟨by simp [Gh.add, hq, h1], c', e', fz', by simp only [Gh.add, hq, if_false]; rw [hw.old (block_lt hb)]; exact hb, hn, fun j v hj => ?_⟩
      obtain ⟨cv, r1, r2, r3⟩ := hc j v hj
      exact ⟨cv, by simp only [Gh.add, hq, if_false]; exact r1, r2, r3.later hl⟩
  · by_cases hq : r = σ.spot tg
    · subst hq; rw [p3] at hr'; cases hr'
    · exact hs.maps r es (by rw [← p2 r hq]; exact hr')
  · by_cases hq : r = σ.spot tg
    · by_cases hq' : r' = σ.spot tg
      · exact absurd (hq.trans hq'.symm) hne
      · have := hlt r' o' (by rw [← p2 r' hq']; exact h3) h4
        simp only [Gh.add, hq, hq', if_true, if_false]
        omega
    · have l1 := hlt r o (by rw [← p2 r hq]; exact h1) h2
      by_cases hq' : r' = σ.spot tg
      · simp only [Gh.add, hq, hq', if_true, if_false]
        omega
      · simp only [Gh.add, hq, hq', if_false]
        exact hs.dist r r' o o' (by rw [← p2 r hq]; exact h1) h2 (by rw [← p2 r' hq']; exact h3) h4 hne
  · by_cases hq : r = σ.spot tg
    · simp only [Gh.add, hq, if_true]
      intro hf
      obtain ⟨v, hv⟩ := hs.frzb _ _ hf
      have := cell_lt hv
      omega
    · simp only [Gh.add, hq, if_false]
      exact hs.nofrz r o (by rw [← p2 r hq]; exact h1) h2 q
  · rw [p1] at ht
    obtain ⟨h0, c', e', fz', hb, hn, hsz, hf⟩ := hs.tok t k ht
    exact ⟨h0, c', e', fz', by rw [show ((g.add (σ.spot tg) w.heap.size cs.length).tok t) = g.tok t from rfl, hw.old (block_lt hb)]; exact hb, hn, hsz, hf⟩
  · rw [p1] at h1 h2
    exact hs.tdist t t' k k' h1 h2 h3
  · rw [p1] at h1
    obtain ⟨h0, c', e', fz', hb, _⟩ := hs.tok t k h1
    have := block_lt hb
    by_cases hq : r = σ.spot tg
    · simp only [Gh.add, hq, if_true]
      omega
    · simp only [Gh.add, hq, if_false]
      exact hs.tobj t k r o h1 (by rw [← p2 r hq]; exact h2) h3
  · obtain ⟨v, hv⟩ := hs.frzb b q hf
    exact ⟨v, by rw [hcell b q hf]; exact hv⟩
  · rcases hb with ⟨r, o, h1, h2, rfl⟩ | ⟨t, k, ht, rfl⟩
    · by_cases hq : r = σ.spot tg
      · right; simp [Gh.add, hq]
      · left
        simp only [Gh.add, hq, if_false]
        exact .inl ⟨r, o, by rw [← p2 r hq]; exact h1, h2, rfl⟩
    · left
      exact .inr ⟨t, k, by rw [← p1]; exact ht, rfl⟩

theorem Sim.new_obj (hs : Sim g σ w) {tg : Option Nat} {cs : List V} {σ' : St} (hp : σ.place tg (.cells cs) = some σ') {c : Array Value} {e : TypeId} (hr : VRs g σ.toks w cs c.toList) (ho : ∀ v ∈ c.toList, oneC v = true)
    {w' : World} (hw : Grown1 w (.cells c e) w') :
    Sim (g.add (σ.spot tg) w.heap.size cs.length) σ' w' ∧ Ev g σ w (g.add (σ.spot tg) w.heap.size cs.length) σ' w' :=
  hs.new_obj2 hp hr ho (fun j v h => by simpa using h) hw

/-- What a step that turns the store comes to. -/
def EStep (P : Program) (g : Gh) (σ : St) (w : World) (s : Sem Value) (v : V) (σ' : St) : Prop :=
  ∃ cv w' g', s.run P w = .ok cv w' ∧ Sim g' σ' w' ∧ VR g' σ'.toks w' v cv ∧ Ev g σ w g' σ' w'

theorem newObj_inv {tg : Option Nat} {o : Obj} {f : Nat → V} {v : V} {σ' : St} (h : Dn.newObj σ tg o f = some (v, σ')) : σ.place tg o = some σ' ∧ v = f (σ.spot tg) := by
  unfold Dn.newObj at h
  split at h
  · cases h; exact ⟨by assumption, rfl⟩
  · cases h

theorem grown_push (w : World) (o : Go.Obj) : Grown1 w o { w with heap := w.heap.push o } := ⟨rfl, rfl, rfl, rfl⟩

theorem alloc_rel (hs : Sim g σ w) {t : TypeId} {z : List D} (hz : zeroOf P t = some z) {tg : Option Nat} {v : V} {σ' : St} (h : Dn.newObj σ tg (.cells (z.map .d)) (fun r => .ref r 0) = some (v, σ')) :
    EStep P g σ w (Instr.alloc t true (.tuple #[])) v σ' := by
  obtain ⟨hp, rfl⟩ := newObj_inv h
  obtain ⟨i, zv, hi, hzv, hleaf⟩ := zeroOf_inv hz
  obtain ⟨z1, z2⟩ := leafsD_vrs (g := g) (tk := σ.toks) (w := w) hleaf
  obtain ⟨s1, s2⟩ := hs.new_obj hp z1 z2 (grown_push w (.cells zv.cells t))
  refine ⟨.pointer (some ⟨w.heap.size, 0, none⟩), _, _, ?_, s1, ?_, s2⟩
  · simp [Instr.alloc, run_zeroValue hi hzv, newVar, newRow, newObj, Sem.run]
  · have := VR.ref (g := g.add (σ.spot tg) w.heap.size (z.map V.d).length) (tk := σ'.toks) (w := { w with heap := w.heap.push (.cells zv.cells t) }) (σ.spot tg) 0 (.inr rfl)
    simpa [Gh.add] using this

theorem box_rel (hs : Sim g σ w) {t : TypeId} {x v : V} {cx : Value} (hx : VR g σ.toks w x cx) {l : List V} (hl : x.cells = some l) {tg : Option Nat} {σ' : St} (h : Dn.newObj σ tg (.cells l) (fun r => .ref r 0) = some (v, σ')) :
    EStep P g σ w (Instr.box t cx) v σ' := by
  obtain ⟨hp, rfl⟩ := newObj_inv h
  obtain ⟨z1, z2⟩ := hx.cells hl
  obtain ⟨s1, s2⟩ := hs.new_obj hp z1 z2 (grown_push w (.cells cx.cells t))
  refine ⟨.pointer (some ⟨w.heap.size, 0, none⟩), _, _, ?_, s1, ?_, s2⟩
  · simp [Instr.box, newVar, newRow, newObj, Sem.run]
  · have := VR.ref (g := g.add (σ.spot tg) w.heap.size l.length) (tk := σ'.toks) (w := { w with heap := w.heap.push (.cells cx.cells t) }) (σ.spot tg) 0 (.inr rfl)
    simpa [Gh.add] using this

end Go.Dn
