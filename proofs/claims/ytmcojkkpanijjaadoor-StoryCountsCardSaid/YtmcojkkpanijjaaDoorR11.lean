/- Of any messages the program tells how many there are of each kind, and how many bytes their frames have, as the document does. -/
import Derived.Test.YtmcojkkpanijjaaDoorT18
import Derived.Test.YtmcojkkpanijjaaDoorCards
import Derived.Test.YtmcojkkpanijjaaDoorTie
import Derived.Test.YtmcojkkpanijjaaDoorFw41
import Derived.WalkKit
import Derived.ProofKit
import Derived.OpenShut
import Derived.ShutString
import Derived.ChangeOld
import Derived.Below
import Derived.SizedLaws
import Derived.Carry
import Derived.LaidLaws
import Derived.Handed
import Derived.Lay
import Derived.SevenTiedAt
namespace Go.Proofs.YtmcojkkpanijjaaDoor.storyCounts
open Go.ChangeShapes Go.WideShapes Go.ChangeAt Go.RowKit Go.Dn
open Go.ChangeMaps (open_string shut_string)
set_option linter.unusedVariables false
theorem own : ownKnob Tryd.prog.godebug = none := by kernel_rfl
theorem laidOut : laidOutB Tryd.prog = true := by kernel_rfl
theorem laid_met (os : Os) (args : Array Value) : laidMet Tryd.prog Rows.storyCountsRow.laid ((World.laidAll Tryd.prog os Rows.storyCountsRow.laid).forCall (fun _ _ => 0) ⟨#[], args, []⟩).memory :=
  laidMet_laidAll _ (by kernel_rfl) (by kernel_rfl)
theorem data0 : (Rows.laid_gossamer_gossamerref07_k : DataW Unit) = .agg ((Sha.K256.map un).map fun z => .lit (.int .u32 z)) := by kernel_rfl
theorem name0 : Tryd.prog.globalNamed (Rows.storyCountsRow.laid.map (·.1))[0] = some 0 := by kernel_rfl
theorem type0 : (Tryd.prog.globals[0]?).map (·.type) = some 104 := by kernel_rfl
theorem cells0 : (Sha.K256.map un).map (fun z => D.int .u32 z) = T.g0 := rfl
theorem data1 : (Rows.laid_gossamer_digest_constants : DataW Unit) = .agg ((Sha.K256.map un).map fun z => .lit (.int .u32 z)) := by kernel_rfl
theorem name1 : Tryd.prog.globalNamed (Rows.storyCountsRow.laid.map (·.1))[1] = some 2 := by kernel_rfl
theorem type1 : (Tryd.prog.globals[2]?).map (·.type) = some 104 := by kernel_rfl
theorem cells1 : (Sha.K256.map un).map (fun z => D.int .u32 z) = T.g2 := rfl
theorem data2 : (Rows.laid_gossamer_digest_beginning : DataW Unit) = .agg ((Sha.H0.l.map un).map fun z => .lit (.int .u32 z)) := by kernel_rfl
theorem name2 : Tryd.prog.globalNamed (Rows.storyCountsRow.laid.map (·.1))[2] = some 1 := by kernel_rfl
theorem type2 : (Tryd.prog.globals[1]?).map (·.type) = some 102 := by kernel_rfl
theorem cells2 : (Sha.H0.l.map un).map (fun z => D.int .u32 z) = T.g1 := rfl
theorem globs {W : World} (hL : laidMet Tryd.prog Rows.storyCountsRow.laid W) : GlobR T.cx.globs (Gh.bare Tryd.prog fun b q => ∃ v, W.cell? ⟨b, q, none⟩ = some v) [] W := by
  obtain ⟨ps, h, -⟩ := hL
  obtain ⟨g0, t0, cs0, f0, p0, q0, a0, b0, c0, d0, h, -⟩ := h
  obtain ⟨g1, t1, cs1, f1, p1, q1, a1, b1, c1, d1, h, -⟩ := h
  obtain ⟨g2, t2, cs2, f2, p2, q2, a2, b2, c2, d2, h, -⟩ := h
  obtain rfl := Option.some.inj (name0.symm.trans a0)
  obtain rfl := Option.some.inj (type0.symm.trans b0)
  rw [data0] at d0
  have v0 := laid_ro a0 (N := 64) (e := 55) (k := .u32) (by kernel_rfl) (by kernel_rfl) (by kernel_rfl) (by kernel_rfl) c0 d0
  rw [cells0] at v0
  obtain rfl := Option.some.inj (name1.symm.trans a1)
  obtain rfl := Option.some.inj (type1.symm.trans b1)
  rw [data1] at d1
  have v1 := laid_ro a1 (N := 64) (e := 55) (k := .u32) (by kernel_rfl) (by kernel_rfl) (by kernel_rfl) (by kernel_rfl) c1 d1
  rw [cells1] at v1
  obtain rfl := Option.some.inj (name2.symm.trans a2)
  obtain rfl := Option.some.inj (type2.symm.trans b2)
  rw [data2] at d2
  have v2 := laid_ro a2 (N := 8) (e := 55) (k := .u32) (by kernel_rfl) (by kernel_rfl) (by kernel_rfl) (by kernel_rfl) c2 d2
  rw [cells2] at v2
  intro k cs hk
  simp only [T.cx, T.globT, List.mem_cons, List.not_mem_nil, or_false, Prod.mk.injEq] at hk
  rcases hk with ⟨rfl, rfl⟩ | ⟨rfl, rfl⟩ | ⟨rfl, rfl⟩
  · exact v2
  · exact v1
  · exact v0
set_option maxRecDepth 100000 in
theorem lifted (os : Os) (started : os.Started) (H : Type) (enc : TypeId × Value → H) :
    ReturnsInHanded {} Tryd.checked os 4 .any (fun w args => (Rows.storyCountsSpec.pre enc Tryd.prog Tryd.f4 Rows.storyCountsRow.domain false w args ∧ laidMet Tryd.prog Rows.storyCountsRow.laid w) ∧ sizedMet enc Tryd.prog Tryd.f4 (OpenSpec.ofChange Rows.storyCountsSpec) false w args)
      (Rows.storyCountsSpec.post enc Tryd.prog Tryd.f4 false true false false) := by
  refine returnsInHanded_of_change_and (C := Tryd.checked) (X := fun w _ => laidMet Tryd.prog Rows.storyCountsRow.laid w) (fun _ _ _ hh h => h.of_heap hh) own started (by kernel_rfl) Tryd.func4
    (ChangeSpec.witness_at (enc := enc) (C := Tryd.checked) (os := os) (X := fun w _ => laidMet Tryd.prog Rows.storyCountsRow.laid w) false (World.laidAll Tryd.prog os Rows.storyCountsRow.laid) #[.slice none 0 0] 8 (World.laidAll_os _ _ _) (by kernel_rfl) (by kernel_rfl) (by kernel_rfl) (by kernel_rfl) (by kernel_rfl) (laid_met os _)) ?_
  intro W base args ds gs before hval0 hW hcnd _ hL _
  have hval : ∀ (j : Nat) t v, Tryd.f4.params[j]? = some t → args[j]? = some v → Value.okWide Tryd.prog W .any base t v := hval0
  have hW' := hW
  obtain ⟨p, q, hA0, hV, rfl, hfz, hnd⟩ := hW
  have hA : DataW.TrodAll enc Tryd.prog W 0 (fun _ => true) true Tryd.f4.params.toList args.toList ds p := hA0
  rw [Tryd.params4] at hA hval
  obtain ⟨v0, vs0, d0, ds0, p0, q0, hargs, rfl, rfl, h0, r0⟩ := trodAll_cons hA
  obtain ⟨rfl, rfl, rfl⟩ := trodAll_nil r0
  obtain rfl : args = #[v0] := by cases args; simp_all
  obtain ⟨rfl, rfl⟩ := trodVars_none hV
  have lt0 : ∀ x ∈ p0, x.block < W.heap.size := by obtain ⟨m, hm⟩ := h0; exact DataW.trod_lt m _ _ _ hm
  have k0 := h0
  obtain ⟨x0, hx0, hf0⟩ := arg_d (g := Gh.bare Tryd.prog fun b q => ∃ v, W.cell? ⟨b, q, none⟩ = some v) (tk := []) rfl (k := .list T.msgK) (by kernel_rfl) (by kernel_rfl) (hval 0 _ v0 rfl rfl) h0
  have hc := row_calls (P := Tryd.prog) (w := W) (cx := T.cx) (by kernel_rfl) T.hΓ (T.lawC hf0) (args := #[v0]) ⟨hx0, trivial⟩ (globs hL)
  refine hc.mono fun e W' ⟨he, bel⟩ => ?_
  subst he
  exact ⟨_, rfl, _, _, _, [], _, [], hW', trodAll_mk1 (shut_bool Tryd.underlying4 _), (trodAll_cons_mk (Below.trod laidOut (by kernel_rfl) (of_decide_eq_true (by kernel_rfl)) k0 bel lt0) trodAll_mk0), rfl, bel.frame _, fun h => by cases h⟩
theorem over : Rows.storyCountsRow.holds Tryd.pinned (OpenSpec.ofChange Rows.storyCountsSpec) :=
  OpenClaim.holds_of_wide 4 Tryd.f4 rfl rfl rfl rfl rfl rfl rfl ⟨rfl, rfl, rfl, rfl, rfl⟩ rfl rfl rfl rfl rfl (by kernel_rfl) Tryd.func4 (by kernel_rfl)
    (of_decide_eq_true (by kernel_rfl)) (by unfold Func.isWrapper; first | (rw [if_pos (by decide +kernel)]; kernel_rfl) | (rw [if_neg (by decide +kernel)]; exact ⟨rfl, rfl⟩))
    (fun os started H enc _ => lifted os started H enc)
theorem proved : Rows.StoryCountsCardSaid :=
  Claim7.holds_tied_plain_at .later [] [.data, .data, .data] true (true, "f15583bf49a18a92ff7158badee9a814668f028a9b0579007750a4807b60c961") true
    over (fun _ h => by cases h) (by kernel_rfl) (fun _ h => by cases h) storyCounts_row_tie rfl ⟨rfl, rfl⟩ (by kernel_rfl) rfl
    (fun f fn hf hfn => by
      obtain rfl : f = 4 := Option.some.inj ((show Tryd.prog.funcNamed Rows.storyCountsRow.func = some 4 by kernel_rfl).symm.trans hf) |>.symm
      obtain rfl : fn = Tryd.f4 := (Option.some.inj (Tryd.func4.symm.trans hfn)).symm
      refine ⟨by kernel_rfl, fun j t ht => ?_⟩
      have hall : Tryd.f4.params.toList.all (fun t => !Tryd.prog.wantsStandIn t) = true := by kernel_rfl
      have hm : t ∈ Tryd.f4.params.toList := by
        obtain ⟨h1, h2⟩ := Array.getElem?_eq_some_iff.1 ht
        rw [← h2]
        exact Array.getElem_mem_toList h1
      have := List.all_eq_true.1 hall t hm
      exact (by simpa using this : Tryd.prog.wantsStandIn t = false))
    (by kernel_rfl)
#print axioms proved
end Go.Proofs.YtmcojkkpanijjaaDoor.storyCounts
