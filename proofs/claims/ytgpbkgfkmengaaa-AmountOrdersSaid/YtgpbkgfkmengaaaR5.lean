/- For every input AmountOrders returns true and leaves its arguments as they read. Conditions: none beyond the given statement. -/
import Derived.Test.YtgpbkgfkmengaaaA11
import Derived.Test.YtgpbkgfkmengaaaA5
import Derived.WalkKit
import Derived.ProofKit
import Derived.OpenShut
import Derived.ShutString
import Derived.ChangeOld
import Derived.Below
import Derived.SizedLaws
import Derived.Carry
namespace Go.Proofs.Ytgpbkgfkmengaaa.amountOrders
open Go.ChangeShapes Go.WideShapes Go.ChangeAt Go.RowKit Go.Dn
open Go.ChangeMaps (open_string shut_string)
set_option linter.unusedVariables false
theorem own : ownKnob Try.prog.godebug = none := by kernel_rfl
theorem laidOut : laidOutB Try.prog = true := by kernel_rfl
theorem fits_cons {k : Lf} {ks : List Lf} {xs : List D} (h : fitsAll (k :: ks) xs = true) : ∃ d r, xs = d :: r ∧ k.fits d = true ∧ fitsAll ks r = true := by
  cases xs with
  | nil => simp [fitsAll] at h
  | cons d r => simp only [fitsAll, Bool.and_eq_true] at h; exact ⟨d, r, rfl, h.1, h.2⟩
theorem fits_nil {xs : List D} (h : fitsAll [] xs = true) : xs = [] := by
  cases xs with
  | nil => rfl
  | cons d r => simp [fitsAll] at h
theorem fits_int {k : IntKind} {d : D} (h : (Lf.int k).fits d = true) : ∃ n, d = .int k n ∧ k.min ≤ n ∧ n ≤ k.max := by
  unfold Lf.fits at h
  split at h
  · rename_i k1 k2 n heq
    cases heq
    simp only [Bool.and_eq_true, beq_iff_eq, decide_eq_true_eq] at h
    obtain ⟨⟨rfl, h1⟩, h2⟩ := h
    exact ⟨n, rfl, h1, h2⟩
  · rename_i heq; cases heq
  · rename_i heq; cases heq
  · cases h
set_option maxRecDepth 100000 in
theorem lifted (os : Os) (started : os.Started) (H : Type) (enc : TypeId × Value → H) :
    ReturnsInHanded {} Try.checked os 5 .any (Rows.amountOrdersSpec.pre6 enc Try.prog Try.f5 Rows.amountOrdersRow.domain false) (Rows.amountOrdersSpec.post enc Try.prog Try.f5 false true false false) := by
  refine returnsInHanded_of_change_sized (C := Try.checked) own started (by kernel_rfl) Try.func5
    (ChangeSpec.witness6 (enc := enc) (C := Try.checked) false ⟨#[], #[.agg #[.int .i64 0, .int .i64 0], .agg #[.int .i64 0, .int .i64 0], .agg #[.int .i64 0, .int .i64 0]], []⟩ 8 (by kernel_rfl) (by kernel_rfl) (by kernel_rfl) (by kernel_rfl)) ?_
  intro W base args ds gs before hval0 hW hcnd hsz0 _
  have hval : ∀ (j : Nat) t v, Try.f5.params[j]? = some t → args[j]? = some v → Value.okWide Try.prog W .any base t v := hval0
  have hW' := hW
  obtain ⟨p, q, hA0, hV, rfl, hfz, hnd⟩ := hW
  have hA : DataW.TrodAll enc Try.prog W 0 (fun _ => true) true Try.f5.params.toList args.toList ds p := hA0
  rw [Try.params5] at hA hval
  obtain ⟨v0, vs0, d0, ds0, p0, q0, hargs, rfl, rfl, h0, r0⟩ := trodAll_cons hA
  obtain ⟨v1, vs1, d1, ds1, p1, q1, rfl, rfl, rfl, h1, r1⟩ := trodAll_cons r0
  obtain ⟨v2, vs2, d2, ds2, p2, q2, rfl, rfl, rfl, h2, r2⟩ := trodAll_cons r1
  obtain ⟨rfl, rfl, rfl⟩ := trodAll_nil r2
  obtain rfl : args = #[v0, v1, v2] := by cases args; simp_all
  obtain ⟨rfl, rfl⟩ := trodVars_none hV
  have lt0 : ∀ x ∈ p0, x.block < W.heap.size := by obtain ⟨m, hm⟩ := h0; exact DataW.trod_lt m _ _ _ hm
  have k0 := h0
  obtain ⟨xs0, hx0, hf0⟩ := arg_flat (g := Gh.bare fun b q => ∃ v, W.cell? ⟨b, q, none⟩ = some v) (tk := []) rfl (ks := [.int .i64, .int .i64]) (by kernel_rfl) (by kernel_rfl) (hval 0 _ v0 rfl rfl) h0
  obtain ⟨a0, b0, rfl, ha0, hb0⟩ : ∃ f w : Int, xs0 = [.int .i64 f, .int .i64 w] ∧ (IntKind.i64.min ≤ f ∧ f ≤ IntKind.i64.max) ∧ (IntKind.i64.min ≤ w ∧ w ≤ IntKind.i64.max) := by
    obtain ⟨d, r, rfl, b1, b2⟩ := fits_cons hf0
    obtain ⟨d', r', rfl, b3, b4⟩ := fits_cons b2
    obtain rfl := fits_nil b4
    obtain ⟨f, rfl, c1⟩ := fits_int b1
    obtain ⟨w, rfl, c2⟩ := fits_int b3
    exact ⟨f, w, rfl, c1, c2⟩
  have lt1 : ∀ x ∈ p1, x.block < W.heap.size := by obtain ⟨m, hm⟩ := h1; exact DataW.trod_lt m _ _ _ hm
  have k1 := h1
  obtain ⟨xs1, hx1, hf1⟩ := arg_flat (g := Gh.bare fun b q => ∃ v, W.cell? ⟨b, q, none⟩ = some v) (tk := []) rfl (ks := [.int .i64, .int .i64]) (by kernel_rfl) (by kernel_rfl) (hval 1 _ v1 rfl rfl) h1
  obtain ⟨a1, b1, rfl, ha1, hb1⟩ : ∃ f w : Int, xs1 = [.int .i64 f, .int .i64 w] ∧ (IntKind.i64.min ≤ f ∧ f ≤ IntKind.i64.max) ∧ (IntKind.i64.min ≤ w ∧ w ≤ IntKind.i64.max) := by
    obtain ⟨d, r, rfl, b1, b2⟩ := fits_cons hf1
    obtain ⟨d', r', rfl, b3, b4⟩ := fits_cons b2
    obtain rfl := fits_nil b4
    obtain ⟨f, rfl, c1⟩ := fits_int b1
    obtain ⟨w, rfl, c2⟩ := fits_int b3
    exact ⟨f, w, rfl, c1, c2⟩
  have lt2 : ∀ x ∈ p2, x.block < W.heap.size := by obtain ⟨m, hm⟩ := h2; exact DataW.trod_lt m _ _ _ hm
  have k2 := h2
  obtain ⟨xs2, hx2, hf2⟩ := arg_flat (g := Gh.bare fun b q => ∃ v, W.cell? ⟨b, q, none⟩ = some v) (tk := []) rfl (ks := [.int .i64, .int .i64]) (by kernel_rfl) (by kernel_rfl) (hval 2 _ v2 rfl rfl) h2
  obtain ⟨a2, b2, rfl, ha2, hb2⟩ : ∃ f w : Int, xs2 = [.int .i64 f, .int .i64 w] ∧ (IntKind.i64.min ≤ f ∧ f ≤ IntKind.i64.max) ∧ (IntKind.i64.min ≤ w ∧ w ≤ IntKind.i64.max) := by
    obtain ⟨d, r, rfl, b1, b2⟩ := fits_cons hf2
    obtain ⟨d', r', rfl, b3, b4⟩ := fits_cons b2
    obtain rfl := fits_nil b4
    obtain ⟨f, rfl, c1⟩ := fits_int b1
    obtain ⟨w, rfl, c2⟩ := fits_int b3
    exact ⟨f, w, rfl, c1, c2⟩
  have hc := row_calls (P := Try.prog) (w := W) (cx := T.cx) (by kernel_rfl) T.hΓ rfl (T.s5 a0 b0 a1 b1 a2 b2) (args := #[v0, v1, v2]) ⟨hx0, hx1, hx2, trivial⟩
  refine hc.mono fun e W' ⟨he, bel⟩ => ?_
  subst he
  exact ⟨_, rfl, _, _, _, [], _, [], hW', trodAll_mk1 (shut_bool Try.underlying4 _), (trodAll_cons_mk (Below.trod laidOut (by kernel_rfl) (of_decide_eq_true (by kernel_rfl)) k0 bel lt0) (trodAll_cons_mk (Below.trod laidOut (by kernel_rfl) (of_decide_eq_true (by kernel_rfl)) k1 bel lt1) (trodAll_cons_mk (Below.trod laidOut (by kernel_rfl) (of_decide_eq_true (by kernel_rfl)) k2 bel lt2) trodAll_mk0))), rfl, bel.frame _, fun h => by cases h⟩
theorem over : Rows.amountOrdersRow.holds Try.pinned (OpenSpec.ofChange Rows.amountOrdersSpec) :=
  OpenClaim.holds_of_wide 5 Try.f5 rfl rfl rfl rfl rfl rfl rfl ⟨rfl, rfl, rfl, rfl, rfl⟩ rfl rfl rfl rfl rfl (by kernel_rfl) Try.func5 (by kernel_rfl)
    (of_decide_eq_true (by kernel_rfl)) (by unfold Func.isWrapper; first | (rw [if_pos (by decide +kernel)]; kernel_rfl) | (rw [if_neg (by decide +kernel)]; exact ⟨rfl, rfl⟩))
    (fun os started H enc _ => lifted os started H enc)
theorem proved : Rows.AmountOrdersSaid := over
#print axioms proved
end Go.Proofs.Ytgpbkgfkmengaaa.amountOrders
