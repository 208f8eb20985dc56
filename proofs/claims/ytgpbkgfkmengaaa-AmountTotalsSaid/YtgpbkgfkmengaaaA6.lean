import Derived.Test.YtgpbkgfkmengaaaA5
import Derived.WalkKit
import Derived.ProofKit
import Derived.OpenShut
import Derived.ShutString
import Derived.ChangeOld
import Derived.Below
import Derived.SizedLaws
import Derived.Carry
namespace Go.Proofs.Ytgpbkgfkmengaaa.amountNeeds
open Go.ChangeShapes Go.WideShapes Go.ChangeAt Go.RowKit Go.Dn
open Go.ChangeMaps (open_string shut_string)
set_option linter.unusedVariables false
theorem own : ownKnob Try.prog.godebug = none := by kernel_rfl
theorem laidOut : laidOutB Try.prog = true := by kernel_rfl
theorem fits_cons {k : Lf} {ks : List Lf} {xs : List D} (h : fitsAll (k :: ks) xs = true) : ∃ d r, xs = d :: r ∧ k.fits d = true ∧ fitsAll ks r = true := by
  cases xs with
  | nil => simp [fitsAll] at h
  | cons d r => simp only [fitsAll, Bool.and_eq_true] at h; exact ⟨d, r, rfl, h.1, h.2⟩
theorem fits_nil {xs : List D} (h : fitsAll [] xs = true) : xs = [] := by
  cases xs with
  | nil => rfl
  | cons d r => simp [fitsAll] at h
theorem fits_int {k : IntKind} {d : D} (h : (Lf.int k).fits d = true) : ∃ n, d = .int k n ∧ k.min ≤ n ∧ n ≤ k.max := by
  unfold Lf.fits at h
  split at h
  · rename_i k1 k2 n heq
    cases heq
    simp only [Bool.and_eq_true, beq_iff_eq, decide_eq_true_eq] at h
    obtain ⟨⟨rfl, h1⟩, h2⟩ := h
    exact ⟨n, rfl, h1, h2⟩
  · rename_i heq; cases heq
  · rename_i heq; cases heq
  · cases h
set_option maxRecDepth 100000 in
theorem lifted (os : Os) (started : os.Started) (H : Type) (enc : TypeId × Value → H) :
    ReturnsInHanded {} Try.checked os 4 .any (Rows.amountNeedsSpec.pre6 enc Try.prog Try.f4 Rows.amountNeedsRow.domain false) (Rows.amountNeedsSpec.post enc Try.prog Try.f4 false true false false) := by
  refine returnsInHanded_of_change_sized (C := Try.checked) own started (by kernel_rfl) Try.func4
    (ChangeSpec.witness6 (enc := enc) (C := Try.checked) false ⟨#[], #[.agg #[.int .i64 0, .int .i64 0], .int .i64 0, .int .i64 0], []⟩ 8 (by kernel_rfl) (by kernel_rfl) (by kernel_rfl) (by kernel_rfl)) ?_
  intro W base args ds gs before hval0 hW hcnd hsz0 _
  have hval : ∀ (j : Nat) t v, Try.f4.params[j]? = some t → args[j]? = some v → Value.okWide Try.prog W .any base t v := hval0
  have hW' := hW
  obtain ⟨p, q, hA0, hV, rfl, hfz, hnd⟩ := hW
  have hA : DataW.TrodAll enc Try.prog W 0 (fun _ => true) true Try.f4.params.toList args.toList ds p := hA0
  rw [Try.params4] at hA hval
  obtain ⟨v0, vs0, d0, ds0, p0, q0, hargs, rfl, rfl, h0, r0⟩ := trodAll_cons hA
  obtain ⟨v1, vs1, d1, ds1, p1, q1, rfl, rfl, rfl, h1, r1⟩ := trodAll_cons r0
  obtain ⟨v2, vs2, d2, ds2, p2, q2, rfl, rfl, rfl, h2, r2⟩ := trodAll_cons r1
  obtain ⟨rfl, rfl, rfl⟩ := trodAll_nil r2
  obtain rfl : args = #[v0, v1, v2] := by cases args; simp_all
  obtain ⟨rfl, rfl⟩ := trodVars_none hV
  have lt0 : ∀ x ∈ p0, x.block < W.heap.size := by obtain ⟨m, hm⟩ := h0; exact DataW.trod_lt m _ _ _ hm
  have k0 := h0
  obtain ⟨xs, hx0, hf0⟩ := arg_flat (g := Gh.bare fun b q => ∃ v, W.cell? ⟨b, q, none⟩ = some v) (tk := []) rfl (ks := [.int .i64, .int .i64]) (by kernel_rfl) (by kernel_rfl) (hval 0 _ v0 rfl rfl) h0
  obtain ⟨a1, rfl, rfl, rfl, w1⟩ := open_int Try.underlying3 (hval 1 3 v1 rfl rfl) h1
  obtain ⟨a2, rfl, rfl, rfl, w2⟩ := open_int Try.underlying3 (hval 2 3 v2 rfl rfl) h2
  obtain ⟨f, w, rfl⟩ : ∃ f w : Int, xs = [.int .i64 f, .int .i64 w] := by
    obtain ⟨d, r, rfl, b1, b2⟩ := fits_cons hf0
    obtain ⟨d', r', rfl, b3, b4⟩ := fits_cons b2
    obtain rfl := fits_nil b4
    obtain ⟨f, rfl, _⟩ := fits_int b1
    obtain ⟨w, rfl, _⟩ := fits_int b3
    exact ⟨f, w, rfl⟩
  have hc := row_calls (P := Try.prog) (w := W) (cx := T.cx) (by kernel_rfl) T.hΓ rfl (T.s4 f w a1 a2) (args := #[v0, .int .i64 a1, .int .i64 a2]) ⟨hx0, .d _ _ (.int _ _) rfl, .d _ _ (.int _ _) rfl, trivial⟩
  refine hc.mono fun e W' ⟨he, bel⟩ => ?_
  subst he
  exact ⟨_, rfl, _, _, _, [], _, [], hW', trodAll_mk1 (shut_bool Try.underlying4 _), (trodAll_cons_mk (Below.trod laidOut (by kernel_rfl) (of_decide_eq_true (by kernel_rfl)) k0 bel lt0) (trodAll_cons_mk (shut_int Try.underlying3 w1) (trodAll_cons_mk (shut_int Try.underlying3 w2) trodAll_mk0))), rfl, bel.frame _, fun h => by cases h⟩
theorem over : Rows.amountNeedsRow.holds Try.pinned (OpenSpec.ofChange Rows.amountNeedsSpec) :=
  OpenClaim.holds_of_wide 4 Try.f4 rfl rfl rfl rfl rfl rfl rfl ⟨rfl, rfl, rfl, rfl, rfl⟩ rfl rfl rfl rfl rfl (by kernel_rfl) Try.func4 (by kernel_rfl)
    (of_decide_eq_true (by kernel_rfl)) (by unfold Func.isWrapper; first | (rw [if_pos (by decide +kernel)]; kernel_rfl) | (rw [if_neg (by decide +kernel)]; exact ⟨rfl, rfl⟩))
    (fun os started H enc _ => lifted os started H enc)
theorem proved : Rows.AmountNeedsSaid := over
#print axioms proved
end Go.Proofs.Ytgpbkgfkmengaaa.amountNeeds
