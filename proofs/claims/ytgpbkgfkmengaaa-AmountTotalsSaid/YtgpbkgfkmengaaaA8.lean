import Derived.Test.YtgpbkgfkmengaaaA7
namespace Go.Proofs.Ytgpbkgfkmengaaa.T
open Go.Dn

theorem div_lt {x y u v : Int} (hy : 0 < y) (hv : 0 < v) (h : x / y < u / v) : x * v < u * y := by
  have e1 := Int.emod_add_mul_ediv x y
  have e2 := Int.emod_add_mul_ediv u v
  have r1 := Int.emod_lt_of_pos x hy
  have s0 := Int.emod_nonneg u (by omega : v ≠ 0)
  generalize x / y = q at *
  generalize u / v = p at *
  generalize x % y = r at *
  generalize u % v = s at *
  have hyv := Int.mul_pos hy hv
  have h1 : (q + 1) * (y * v) ≤ p * (y * v) := Int.mul_le_mul_of_nonneg_right (by omega) (by omega)
  have h2 : r * v < y * v := Int.mul_lt_mul_of_pos_right r1 hv
  have h3 : 0 ≤ s * y := Int.mul_nonneg s0 (by omega)
  have h4 : x * v = r * v + q * (y * v) := by rw [← e1]; grind
  have h5 : u * y = s * y + p * (y * v) := by rw [← e2]; grind
  grind

theorem div_eq {x y u v : Int} (h : x / y = u / v) : x * v - u * y = (x % y) * v - (u % v) * y := by
  have e1 := Int.emod_add_mul_ediv x y
  have e2 := Int.emod_add_mul_ediv u v
  rw [h] at e1
  generalize u / v = p at *
  generalize x % y = r at *
  generalize u % v = s at *
  rw [← e1, ← e2]
  grind

end Go.Proofs.Ytgpbkgfkmengaaa.T
