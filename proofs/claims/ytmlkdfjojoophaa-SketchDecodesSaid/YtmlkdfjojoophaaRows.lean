/-
  No cell of these rows narrows 'for every input' (looked for: loops, veiled, ifaces, maps, wideKeys, modest, calm, conditions, laid).
  DERIVED. THE GIVEN ROWS OF THIS SEAT. 6 by the template 'for every input the law returns true; each argument reads behind the call as it read before'; 0 by the template 'total and deterministic' (their statements: YtmlkdfjojoophaaTotals.lean).
  GIVEN WITH THE SEED: the statements are not yours to turn. If you find one false, say at which input.
  Laid BY PROGRAM, IN A SANDBOX (cutbox-rows.mjs): the forced cells as the released guide's own fill.sh prints them over the translation 2928fb96e7dbea9a… (all of the seat's roots in one cut). By AI agents, Wed Nov 11 2026. No macro, syntax, notation, axiom, sorry.
-/
import Derived.Test.YtmlkdfjojoophaaChecked
import GoSem.Claim
import GoSem.ClaimJoined
import GoSem.ClaimMapViews
import Derived.JoinedTies
import Derived.KernelRfl
namespace Go.Proofs.Ytmlkdfjojoophaa
/- THE CELL 'sum', in the pinned program and in every row, IS THE sha256 OF THE DUMP (.gsa) THAT YtmlkdfjojoophaaProg.lean LOADS. Nothing in Lean hashes anything: it is a label: what it is worth is what the hold of that sum in a sandbox is worth. -/
noncomputable def Try.pinned : Pinned := { name := "ytmlkdfjojoophaa", sum := "2928fb96e7dbea9a3ab16ccc720caf1e65cc1c6697dc1235ee08fca07fc4e188", checked := Try.checked }
namespace Rows
def none {H : Type} : Left H := { results := [], args := [] }

/-- 'gossamerlaw05.SketchDiffers': WHATEVER THE INPUT: true; the input reads as it did. -/
def sketchDiffersSpec : ChangeSpec := { name := "sketchDiffers", fn := fun _ => fun
  | [d] => { results := [.lit (.bool true)], args := [d] }
  | _ => none }
def sketchDiffersRow : OpenClaim := { program := "ytmlkdfjojoophaa", sum := "2928fb96e7dbea9a3ab16ccc720caf1e65cc1c6697dc1235ee08fca07fc4e188", func := "gossamer/gossamerlaw05.SketchDiffers", spec := "sketchDiffers", recurses := true, apart := false }
def SketchDiffersSaid : Prop := sketchDiffersRow.holds Try.pinned (OpenSpec.ofChange sketchDiffersSpec)

/-- ITS FALSE NEIGHBOUR: 'it returns false'. Refute it at one input. -/
def sketchDiffersWrong : ChangeSpec := { name := "sketchDiffers", fn := fun _ => fun
  | [d] => { results := [.lit (.bool false)], args := [d] }
  | _ => none }
def SketchDiffersWrongFalsely : Prop := sketchDiffersRow.holds Try.pinned (OpenSpec.ofChange sketchDiffersWrong)

/-- 'gossamerlaw05.SketchDecodes': WHATEVER THE INPUT: true; the input reads as it did. -/
def sketchDecodesSpec : ChangeSpec := { name := "sketchDecodes", fn := fun _ => fun
  | [d] => { results := [.lit (.bool true)], args := [d] }
  | _ => none }
def sketchDecodesRow : OpenClaim := { program := "ytmlkdfjojoophaa", sum := "2928fb96e7dbea9a3ab16ccc720caf1e65cc1c6697dc1235ee08fca07fc4e188", func := "gossamer/gossamerlaw05.SketchDecodes", spec := "sketchDecodes", unfollowed := true, recurses := true, apart := false }
def SketchDecodesSaid : Prop := sketchDecodesRow.holds Try.pinned (OpenSpec.ofChange sketchDecodesSpec)

/-- ITS FALSE NEIGHBOUR: 'it returns false'. Refute it at one input. -/
def sketchDecodesWrong : ChangeSpec := { name := "sketchDecodes", fn := fun _ => fun
  | [d] => { results := [.lit (.bool false)], args := [d] }
  | _ => none }
def SketchDecodesWrongFalsely : Prop := sketchDecodesRow.holds Try.pinned (OpenSpec.ofChange sketchDecodesWrong)

/-- 'gossamerlaw05.SketchSums': WHATEVER THE INPUT: true; the input reads as it did. -/
def sketchSumsSpec : ChangeSpec := { name := "sketchSums", fn := fun _ => fun
  | [d1, d2, d3] => { results := [.lit (.bool true)], args := [d1, d2, d3] }
  | _ => none }
def sketchSumsRow : OpenClaim := { program := "ytmlkdfjojoophaa", sum := "2928fb96e7dbea9a3ab16ccc720caf1e65cc1c6697dc1235ee08fca07fc4e188", func := "gossamer/gossamerlaw05.SketchSums", spec := "sketchSums", unfollowed := true, recurses := true, apart := false }
def SketchSumsSaid : Prop := sketchSumsRow.holds Try.pinned (OpenSpec.ofChange sketchSumsSpec)

/-- ITS FALSE NEIGHBOUR: 'it returns false'. Refute it at one input. -/
def sketchSumsWrong : ChangeSpec := { name := "sketchSums", fn := fun _ => fun
  | [d1, d2, d3] => { results := [.lit (.bool false)], args := [d1, d2, d3] }
  | _ => none }
def SketchSumsWrongFalsely : Prop := sketchSumsRow.holds Try.pinned (OpenSpec.ofChange sketchSumsWrong)

/-- 'gossamerlaw05.SketchFurther': WHATEVER THE INPUT: true; the input reads as it did. -/
def sketchFurtherSpec : ChangeSpec := { name := "sketchFurther", fn := fun _ => fun
  | [d1, d2, d3] => { results := [.lit (.bool true)], args := [d1, d2, d3] }
  | _ => none }
def sketchFurtherRow : OpenClaim := { program := "ytmlkdfjojoophaa", sum := "2928fb96e7dbea9a3ab16ccc720caf1e65cc1c6697dc1235ee08fca07fc4e188", func := "gossamer/gossamerlaw05.SketchFurther", spec := "sketchFurther", unfollowed := true, recurses := true, apart := false }
def SketchFurtherSaid : Prop := sketchFurtherRow.holds Try.pinned (OpenSpec.ofChange sketchFurtherSpec)

/-- ITS FALSE NEIGHBOUR: 'it returns false'. Refute it at one input. -/
def sketchFurtherWrong : ChangeSpec := { name := "sketchFurther", fn := fun _ => fun
  | [d1, d2, d3] => { results := [.lit (.bool false)], args := [d1, d2, d3] }
  | _ => none }
def SketchFurtherWrongFalsely : Prop := sketchFurtherRow.holds Try.pinned (OpenSpec.ofChange sketchFurtherWrong)

/-- 'gossamerlaw05.SketchPuts': WHATEVER THE INPUT: true; the input reads as it did. -/
def sketchPutsSpec : ChangeSpec := { name := "sketchPuts", fn := fun _ => fun
  | [d1, d2, d3] => { results := [.lit (.bool true)], args := [d1, d2, d3] }
  | _ => none }
def sketchPutsRow : OpenClaim := { program := "ytmlkdfjojoophaa", sum := "2928fb96e7dbea9a3ab16ccc720caf1e65cc1c6697dc1235ee08fca07fc4e188", func := "gossamer/gossamerlaw05.SketchPuts", spec := "sketchPuts", unfollowed := true, recurses := true, apart := false }
def SketchPutsSaid : Prop := sketchPutsRow.holds Try.pinned (OpenSpec.ofChange sketchPutsSpec)

/-- ITS FALSE NEIGHBOUR: 'it returns false'. Refute it at one input. -/
def sketchPutsWrong : ChangeSpec := { name := "sketchPuts", fn := fun _ => fun
  | [d1, d2, d3] => { results := [.lit (.bool false)], args := [d1, d2, d3] }
  | _ => none }
def SketchPutsWrongFalsely : Prop := sketchPutsRow.holds Try.pinned (OpenSpec.ofChange sketchPutsWrong)

/-- 'gossamerlaw22.ShortDiffers': WHATEVER THE INPUT: true; the input reads as it did. -/
def shortDiffersSpec : ChangeSpec := { name := "shortDiffers", fn := fun _ => fun
  | [d1, d2] => { results := [.lit (.bool true)], args := [d1, d2] }
  | _ => none }
def shortDiffersRow : OpenClaim := { program := "ytmlkdfjojoophaa", sum := "2928fb96e7dbea9a3ab16ccc720caf1e65cc1c6697dc1235ee08fca07fc4e188", func := "gossamer/gossamerlaw22.ShortDiffers", spec := "shortDiffers", unfollowed := true, recurses := true, apart := false }
def ShortDiffersSaid : Prop := shortDiffersRow.holds Try.pinned (OpenSpec.ofChange shortDiffersSpec)

/-- ITS FALSE NEIGHBOUR: 'it returns false'. Refute it at one input. -/
def shortDiffersWrong : ChangeSpec := { name := "shortDiffers", fn := fun _ => fun
  | [d1, d2] => { results := [.lit (.bool false)], args := [d1, d2] }
  | _ => none }
def ShortDiffersWrongFalsely : Prop := shortDiffersRow.holds Try.pinned (OpenSpec.ofChange shortDiffersWrong)

/- THE SECOND FORM. 'bulk': how many values and letters a reading holds, each counted each time it is reached (what is shared counts as often as it is met; a slice's spare places count too). A statement '..UptoSaid' is the law's where the arguments, and the package variables that the reading takes, are together of bulk at most 1048576: NARROWER than '..Said'. Prove '..Said' where nothing that the law and all that it calls make is longer than what came in: it says more and counts as full. Else prove '..UptoSaid'. A law counts once. -/
mutual
def uptoBulk {H : Type} : DataW H → Nat
  | .lit (.string bytes) => bytes.length + 1
  | .lit _ => 1
  | .nil => 1
  | .ptr d => uptoBulk d + 1
  | .slice elems spare => uptoBulkAll elems + uptoBulkAll spare + 1
  | .agg parts => uptoBulkAll parts + 1
  | .iface _ d => uptoBulk d + 1
  | .map entries => uptoBulkEntries entries + 1
  | .held _ => 1
def uptoBulkAll {H : Type} : List (DataW H) → Nat
  | [] => 0
  | d :: r => uptoBulk d + uptoBulkAll r
def uptoBulkEntries {H : Type} : List (Lit × DataW H) → Nat
  | [] => 0
  | x :: r => uptoBulkEntry x + uptoBulkEntries r
def uptoBulkEntry {H : Type} : Lit × DataW H → Nat
  | (.string bytes, d) => bytes.length + uptoBulk d + 1
  | (_, d) => uptoBulk d + 1
 end
def uptoSmall : (H : Type) → List (DataW H) → Bool := fun _ ds => decide (uptoBulkAll ds ≤ 1048576)
def OpenSpec.upto (s : _root_.Go.ChangeSpec) : _root_.Go.OpenSpec := { _root_.Go.OpenSpec.ofChange s with cond := some uptoSmall }

/-- 'gossamerlaw05.SketchDiffers', WHERE WHAT IT READS IS OF BULK AT MOST 1048576: true; the input reads as it did. -/
def sketchDiffersUptoRow : OpenClaim := { program := "ytmlkdfjojoophaa", sum := "2928fb96e7dbea9a3ab16ccc720caf1e65cc1c6697dc1235ee08fca07fc4e188", func := "gossamer/gossamerlaw05.SketchDiffers", spec := "sketchDiffers", recurses := true, apart := false, narrowed := true }
def SketchDiffersUptoSaid : Prop := sketchDiffersUptoRow.holds Try.pinned (OpenSpec.upto sketchDiffersSpec)

/-- 'gossamerlaw05.SketchDecodes', WHERE WHAT IT READS IS OF BULK AT MOST 1048576: true; the input reads as it did. -/
def sketchDecodesUptoRow : OpenClaim := { program := "ytmlkdfjojoophaa", sum := "2928fb96e7dbea9a3ab16ccc720caf1e65cc1c6697dc1235ee08fca07fc4e188", func := "gossamer/gossamerlaw05.SketchDecodes", spec := "sketchDecodes", unfollowed := true, recurses := true, apart := false, narrowed := true }
def SketchDecodesUptoSaid : Prop := sketchDecodesUptoRow.holds Try.pinned (OpenSpec.upto sketchDecodesSpec)

/-- 'gossamerlaw05.SketchSums', WHERE WHAT IT READS IS OF BULK AT MOST 1048576: true; the input reads as it did. -/
def sketchSumsUptoRow : OpenClaim := { program := "ytmlkdfjojoophaa", sum := "2928fb96e7dbea9a3ab16ccc720caf1e65cc1c6697dc1235ee08fca07fc4e188", func := "gossamer/gossamerlaw05.SketchSums", spec := "sketchSums", unfollowed := true, recurses := true, apart := false, narrowed := true }
def SketchSumsUptoSaid : Prop := sketchSumsUptoRow.holds Try.pinned (OpenSpec.upto sketchSumsSpec)

/-- 'gossamerlaw05.SketchFurther', WHERE WHAT IT READS IS OF BULK AT MOST 1048576: true; the input reads as it did. -/
def sketchFurtherUptoRow : OpenClaim := { program := "ytmlkdfjojoophaa", sum := "2928fb96e7dbea9a3ab16ccc720caf1e65cc1c6697dc1235ee08fca07fc4e188", func := "gossamer/gossamerlaw05.SketchFurther", spec := "sketchFurther", unfollowed := true, recurses := true, apart := false, narrowed := true }
def SketchFurtherUptoSaid : Prop := sketchFurtherUptoRow.holds Try.pinned (OpenSpec.upto sketchFurtherSpec)

/-- 'gossamerlaw05.SketchPuts', WHERE WHAT IT READS IS OF BULK AT MOST 1048576: true; the input reads as it did. -/
def sketchPutsUptoRow : OpenClaim := { program := "ytmlkdfjojoophaa", sum := "2928fb96e7dbea9a3ab16ccc720caf1e65cc1c6697dc1235ee08fca07fc4e188", func := "gossamer/gossamerlaw05.SketchPuts", spec := "sketchPuts", unfollowed := true, recurses := true, apart := false, narrowed := true }
def SketchPutsUptoSaid : Prop := sketchPutsUptoRow.holds Try.pinned (OpenSpec.upto sketchPutsSpec)

/-- 'gossamerlaw22.ShortDiffers', WHERE WHAT IT READS IS OF BULK AT MOST 1048576: true; the input reads as it did. -/
def shortDiffersUptoRow : OpenClaim := { program := "ytmlkdfjojoophaa", sum := "2928fb96e7dbea9a3ab16ccc720caf1e65cc1c6697dc1235ee08fca07fc4e188", func := "gossamer/gossamerlaw22.ShortDiffers", spec := "shortDiffers", unfollowed := true, recurses := true, apart := false, narrowed := true }
def ShortDiffersUptoSaid : Prop := shortDiffersUptoRow.holds Try.pinned (OpenSpec.upto shortDiffersSpec)

end Rows
end Go.Proofs.Ytmlkdfjojoophaa
