import Derived.Test.YtgpbkgfkmengaaaA12
import Derived.Test.YtgpbkgfkmengaaaFw35
namespace Go.Proofs.Ytgpbkgfkmengaaa.T
open Go.Dn

theorem ints_of : ∀ {rows : List (List D)}, (∀ row ∈ rows, Lks [.int .i64] row) → ∃ l, rows = ints l
  | [], _ => ⟨[], rfl⟩
  | r :: rows, h => by
    obtain ⟨l, rfl⟩ := ints_of (rows := rows) fun row hr => h row (by simp [hr])
    have h0 := h r (by simp)
    simp only [Lks, Lk.fits] at h0
    obtain ⟨d, _, rfl, ⟨n, rfl, _⟩, rfl⟩ := h0
    exact ⟨n :: l, rfl⟩

theorem law6 {x y z : D} (hx : (Lk.list [.int .i64]).fits x) (hy : (Lk.int .i64).fits y) (hz : (Lk.int .i64).fits z) : Dn.Call Γ cx 6 [.d x, .d y, .d z] St.empty fun r _ => r = B true := by
  simp only [Lk.fits] at hx hy hz
  obtain ⟨a, rfl, _⟩ := hy
  obtain ⟨b, rfl, _⟩ := hz
  rcases hx with rfl | ⟨rows, rfl, _, h⟩
  · exact s6 [] _ .nil a b
  · obtain ⟨l, rfl⟩ := ints_of h
    exact s6 l _ (.list _) a b

end Go.Proofs.Ytgpbkgfkmengaaa.T
