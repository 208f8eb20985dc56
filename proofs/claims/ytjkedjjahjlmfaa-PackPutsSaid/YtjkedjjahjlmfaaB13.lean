import Derived.Test.YtjkedjjahjlmfaaB12
import Derived.Test.YtjkedjjahjlmfaaFw35
namespace Go.Proofs.Ytjkedjjahjlmfaa.T
open Go.Dn
set_option linter.unusedSimpArgs false
set_option linter.unusedVariables false

theorem hash_of : ∀ (n : Nat) {row : List D}, Lks (List.replicate n (.int .u8)) row → ∃ h : List UInt8, h.length = n ∧ row = hd h
  | 0, row, h => by
    simp only [List.replicate, Lks] at h
    exact ⟨[], rfl, h⟩
  | n + 1, row, h => by
    simp only [List.replicate_succ, Lks, Lk.fits] at h
    obtain ⟨d, r, rfl, ⟨m, rfl, h0, h1⟩, h2⟩ := h
    obtain ⟨h', rfl, rfl⟩ := hash_of n h2
    have e0 : (IntKind.u8.min : Int) = 0 := rfl
    have e1 : (IntKind.u8.max : Int) = 255 := rfl
    refine ⟨UInt8.ofNat m.toNat :: h', rfl, ?_⟩
    simp only [hd, List.map_cons, List.cons.injEq, and_true, UInt8.toNat_ofNat', D.int.injEq, true_and]
    omega

abbrev thingK : List Lk := [.int .i64, .int .i64, .int .u64, .str] ++ List.replicate 32 (.int .u8)

theorem thing_of {row : List D} (h : Lks thingK row) : ∃ t : TG, t.Ok ∧ row = t.row := by
  simp only [thingK, List.cons_append, List.nil_append, Lks, Lk.fits] at h
  obtain ⟨_, _, rfl, ⟨a, rfl, a0, a1⟩, _, _, rfl, ⟨b, rfl, b0, b1⟩, _, _, rfl, ⟨c, rfl, c0, c1⟩, _, _, rfl, ⟨s, rfl, _⟩, h⟩ := h
  obtain ⟨x, hx, rfl⟩ := hash_of 32 h
  exact ⟨⟨a, b, c, s, x⟩, ⟨⟨a0, a1⟩, ⟨b0, b1⟩, ⟨c0, c1⟩, hx⟩, rfl⟩

theorem things_of : ∀ {rows : List (List D)}, (∀ row ∈ rows, Lks thingK row) → ∃ l : List TG, (∀ t ∈ l, t.Ok) ∧ rows = thingRows l
  | [], _ => ⟨[], by simp, rfl⟩
  | r :: rows, h => by
    obtain ⟨l, hl, rfl⟩ := things_of (rows := rows) fun row hr => h row (by simp [hr])
    obtain ⟨t, ht, rfl⟩ := thing_of (h r (by simp))
    exact ⟨t :: l, by simpa using ⟨ht, hl⟩, rfl⟩

theorem things_fit {x : D} (hx : (Lk.list thingK).fits x) : ∃ l : List TG, (∀ t ∈ l, t.Ok) ∧ LV (.d x) (thingRows l) := by
  simp only [Lk.fits] at hx
  rcases hx with rfl | ⟨rows, rfl, _, h⟩
  · exact ⟨[], by simp, .nil⟩
  · obtain ⟨l, hl, rfl⟩ := things_of h
    exact ⟨l, hl, .list _⟩

theorem law4 {x : D} (hx : (Lk.list thingK).fits x) : Dn.Call Γ cx .val 4 [.d x] St.empty fun r _ => r = B true := by
  obtain ⟨l, hl, h⟩ := things_fit hx
  exact s4 h hl

end Go.Proofs.Ytjkedjjahjlmfaa.T
