/- make, into memory that is not written any more. -/
import Derived.Test.YtjkedjjahjlmfaaFw211
namespace Go.Dn
open Go.Lib Go.RowKit
set_option linter.unusedVariables false
set_option linter.unusedSimpArgs false
variable {P : Program} {g : Gh} {σ : St} {w : World}

theorem zerosD_map (n : Nat) (z : List D) : (zerosD n z).map V.d = repl n z := by
  induction n with
  | zero => rfl
  | succ n ih => simp only [zerosD, repl, List.map_append, ih]

theorem makeSlice_relF (hs : Sim g σ w) {t e : TypeId} (ht : P.underlying t = some (.slice e)) (hg : growOk P e = true) {z : List D} (hz : zeroOf P e = some z) {l : Int} (h0 : 0 ≤ l) (hb : l * P.bytesOf e ≤ 140737488355328) (hc : l ≤ 9223372036854775807) :
    EStep P g σ w (Instr.makeSlice t (.int .i64 l) (.int .i64 l)) (.fl (rowsOf (P.cellsOf e) l.toNat (zerosD l.toNat z))) σ := by
  obtain ⟨i, zv, hi, hzv, hisz, hiby, hcell, hzs, hz1⟩ := growOk_inv hg
  obtain ⟨i', zv', hi', hzv', hleaf⟩ := zeroOf_inv hz
  rw [hi] at hi'; cases hi'
  rw [hzv] at hzv'; cases hzv'
  obtain ⟨z1, z2⟩ := leafsD_vrs (g := g) (tk := σ.toks) (w := w) hleaf
  have hzl : z.length = P.cellsOf e := by have := z1.length; simp at this; rw [this]; exact hzs
  have hpos : 0 < z.length := by omega
  have w1 : IntKind.i64.wrap l = l := by simp only [IntKind.wrap, IntKind.signed, IntKind.bits]; simp; omega
  have hcn : (l.toNat : Int) = l := Int.toNat_of_nonneg (by omega)
  have hprod : ((l.toNat * i.bytes : Nat) : Int) = l * i.bytes := by rw [Int.natCast_mul, hcn]
  rw [← hiby] at hb
  have room : l.toNat * i.bytes ≤ 140737488355328 := by omega
  have t1 : ¬ ((i.bytes : Int) * l > 281474976710656) := by rw [Int.mul_comm]; omega
  obtain ⟨r1, r2⟩ := repl_rel (g := g) (tk := σ.toks) (w := w) z1 z2 hpos l.toNat
  rw [← zerosD_map] at r1
  have hszz : zv.cells.size = z.length := by rw [hzl]; exact hzs
  have hrl : (zerosD l.toNat z).length = l.toNat * P.cellsOf e := by
    have := congrArg List.length (zerosD_map l.toNat z)
    rw [List.length_map, repl_length, hzl] at this
    exact this
  obtain ⟨g', s1, s2, s3⟩ := newRow_rel hs (e := e) hrl r1.of_d r2 (w' := { w with heap := w.heap.push (.cells ((Array.range (l.toNat * z.length)).map (zv.cells[· % zv.cells.size]!)) e) }) ⟨rfl, rfl, rfl, rfl⟩
  refine ⟨.slice (some ⟨w.heap.size, 0, none⟩) l.toNat l.toNat, _, g', ?_, s1, s2, s3⟩
  have e1 : ¬ (l < 0) := by omega
  have e4 : ¬ (roomBytes < l.toNat * i.bytes) := by unfold roomBytes; omega
  have e5 : ¬ (281474976710656 < (i.bytes : Int) * l) := by omega
  by_cases hn : l.toNat * i.size = 0
  · have hc0 : l.toNat * z.length = 0 := by rw [hzl, ← hisz]; exact hn
    simp [Instr.makeSlice, run_underlying ht, asInt, asIntOf, typeInfo, hi, w1, e1, e4, e5, sizeOf, hn, newRow, askRoom, hc0]
    have e0 : Array.range 0 = #[] := rfl
    simp only [e0, Array.map_empty]
  · simp [Instr.makeSlice, run_underlying ht, asInt, asIntOf, typeInfo, hi, w1, e1, e4, e5, sizeOf, hn, run_zeroValue hi hzv, newRow, askRoom]
    rw [hisz, hzl]

end Go.Dn
