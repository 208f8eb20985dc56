import Derived.Test.YtmcojkkpanijjaaDoorFw40
import Derived.OpenShut
import Derived.FnData
import Derived.LaidLaws
/- Laid variables that are rows of numbers. -/
namespace Go.Dn
set_option linter.unusedVariables false

variable {P : Program} {w : World}

theorem laid_ro {n : String} {g N : Nat} {t e : TypeId} {k : IntKind} {cs : Array Value} {fuel : Nat} {zs : List Int} {p : List MemPlace} (hg : P.globalNamed n = some g) (ht : P.underlying t = some (.array N e)) (he : P.underlying e = some (.int k)) (hce : P.cellsOf e = 1) (hct : P.cellsOf t = N)
    (hv : w.var? P n = some cs) (hd : DataW.trod (fun _ => ()) P w 0 (fun _ => true) false fuel t cs.toList = some (.agg (zs.map fun z => .lit (.int k z)), p)) :
    VR (Gh.bare P fun b q => ∃ v, w.cell? ⟨b, q, none⟩ = some v) [] w (.ro (zs.map fun z => .int k z)) (.pointer (some ⟨g, 0, none⟩)) := by
  obtain ⟨xs, m, rfl, hx, hl, hxl, hat⟩ := DataW.trod_array ht hd
  simp only [Prod.mk.injEq, DataW.agg.injEq] at hx
  obtain ⟨hx1, -⟩ := hx
  have hzl : zs.length = N := by rw [← hxl]; have := congrArg List.length hx1; simpa using this
  have hcell : ∀ i (hi : i < zs.length), cs[i]? = some (.int k zs[i]) := by
    intro i hi
    have h1 := hat i (by omega)
    rw [hce, Nat.mul_one] at h1
    have hxi : xs[i]? = some (xs[i]'(by omega)) := by simp [hxl, ← hzl, hi]
    rw [hxi] at h1
    obtain ⟨n', h2, h3, -⟩ := DataW.trod_int he h1
    have h4 : (xs.map (·.1))[i]? = some (DataW.lit (.int k zs[i])) := by rw [← hx1]; simp [hi]
    rw [List.getElem?_map, hxi] at h4
    simp only [Option.map_some, Option.some.injEq] at h4
    rw [h3] at h4
    simp only [DataW.lit.injEq, Lit.int.injEq, true_and] at h4
    subst h4
    have h5 : ((cs.toList.drop i).take 1)[0]? = some (.int k zs[i]) := by rw [h2]; rfl
    rw [List.getElem?_take, if_pos (by omega), List.getElem?_drop, Nat.add_zero] at h5
    simpa using h5
  have hw : ∀ i (hi : i < zs.length), w.cell? ⟨g, 0 + i, none⟩ = some (.int k zs[i]) := fun i hi => by
    rw [Nat.zero_add, World.var?_cell hg hv i, hcell i hi]
  refine .ro _ g 0 (fun i => .int k (zs.getD i 0)) (fun i hi => ?_) (fun i hi => ?_) (fun i hi => rfl) (fun i d hd => ?_)
  · simp only [List.length_map] at hi
    exact ⟨_, hw i hi⟩
  · simp only [List.length_map] at hi
    rw [hw i hi]
    simp [List.getD_eq_getElem?_getD, hi]
  · rw [List.getElem?_map] at hd
    cases hz : zs[i]? with
    | none => rw [hz] at hd; cases hd
    | some z =>
      rw [hz] at hd
      cases hd
      simp only [List.getD_eq_getElem?_getD, hz, Option.getD_some]
      exact .int _ _

end Go.Dn
