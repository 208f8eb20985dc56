/-
  No cell of these rows narrows 'for every input' (looked for: loops, veiled, ifaces, maps, wideKeys, modest, calm, conditions, laid).
  DERIVED. THE GIVEN ROWS OF THIS SEAT. 3 by the template 'for every input the law returns true; each argument reads behind the call as it read before'; 0 by the template 'total and deterministic' (their statements: YtmcojkkpanijjaaTotals.lean).
  GIVEN WITH THE SEED: the statements are not yours to turn. If you find one false, say at which input.
  Laid BY PROGRAM, IN A SANDBOX (cutbox-rows.mjs): the forced cells as the released guide's own fill.sh prints them over the translation 73d190f854e4ac4b… (all of the seat's roots in one cut). By AI agents, Wed Nov 11 2026. No macro, syntax, notation, axiom, sorry.
-/
import Derived.Test.YtmcojkkpanijjaaChecked
import GoSem.Claim
import GoSem.ClaimJoined
import GoSem.ClaimMapViews
import Derived.JoinedTies
import Derived.KernelRfl
namespace Go.Proofs.Ytmcojkkpanijjaa
/- THE CELL 'sum', in the pinned program and in every row, IS THE sha256 OF THE DUMP (.gsa) THAT YtmcojkkpanijjaaProg.lean LOADS. Nothing in Lean hashes anything: it is a label: what it is worth is what the hold of that sum in a sandbox is worth. -/
noncomputable def Try.pinned : Pinned := { name := "ytmcojkkpanijjaa", sum := "73d190f854e4ac4b4faea36472ec21c6d8518f1ca5cf9eedfbeb4bda27a122c4", checked := Try.checked }
namespace Rows
def none {H : Type} : Left H := { results := [], args := [] }

/-- 'gossamerlaw22.ShortPlays': WHATEVER THE INPUT: true; the input reads as it did. -/
def shortPlaysSpec : ChangeSpec := { name := "shortPlays", fn := fun _ => fun
  | [d1, d2, d3] => { results := [.lit (.bool true)], args := [d1, d2, d3] }
  | _ => none }
def shortPlaysRow : OpenClaim := { program := "ytmcojkkpanijjaa", sum := "73d190f854e4ac4b4faea36472ec21c6d8518f1ca5cf9eedfbeb4bda27a122c4", func := "gossamer/gossamerlaw22.ShortPlays", spec := "shortPlays", unfollowed := true, recurses := true, apart := false }
def ShortPlaysSaid : Prop := shortPlaysRow.holds Try.pinned (OpenSpec.ofChange shortPlaysSpec)

/-- ITS FALSE NEIGHBOUR: 'it returns false'. Refute it at one input. -/
def shortPlaysWrong : ChangeSpec := { name := "shortPlays", fn := fun _ => fun
  | [d1, d2, d3] => { results := [.lit (.bool false)], args := [d1, d2, d3] }
  | _ => none }
def ShortPlaysWrongFalsely : Prop := shortPlaysRow.holds Try.pinned (OpenSpec.ofChange shortPlaysWrong)

/-- 'gossamerlaw22.ShortSketches': WHATEVER THE INPUT: true; the input reads as it did. -/
def shortSketchesSpec : ChangeSpec := { name := "shortSketches", fn := fun _ => fun
  | [d1, d2, d3] => { results := [.lit (.bool true)], args := [d1, d2, d3] }
  | _ => none }
def shortSketchesRow : OpenClaim := { program := "ytmcojkkpanijjaa", sum := "73d190f854e4ac4b4faea36472ec21c6d8518f1ca5cf9eedfbeb4bda27a122c4", func := "gossamer/gossamerlaw22.ShortSketches", spec := "shortSketches", unfollowed := true, recurses := true, apart := false }
def ShortSketchesSaid : Prop := shortSketchesRow.holds Try.pinned (OpenSpec.ofChange shortSketchesSpec)

/-- ITS FALSE NEIGHBOUR: 'it returns false'. Refute it at one input. -/
def shortSketchesWrong : ChangeSpec := { name := "shortSketches", fn := fun _ => fun
  | [d1, d2, d3] => { results := [.lit (.bool false)], args := [d1, d2, d3] }
  | _ => none }
def ShortSketchesWrongFalsely : Prop := shortSketchesRow.holds Try.pinned (OpenSpec.ofChange shortSketchesWrong)

/-- 'gossamerlaw22.ShortCopies': WHATEVER THE INPUT: true; the input reads as it did. -/
def shortCopiesSpec : ChangeSpec := { name := "shortCopies", fn := fun _ => fun
  | [d1, d2, d3] => { results := [.lit (.bool true)], args := [d1, d2, d3] }
  | _ => none }
def shortCopiesRow : OpenClaim := { program := "ytmcojkkpanijjaa", sum := "73d190f854e4ac4b4faea36472ec21c6d8518f1ca5cf9eedfbeb4bda27a122c4", func := "gossamer/gossamerlaw22.ShortCopies", spec := "shortCopies", inPlace := ["maps.clone"], unfollowed := true, recurses := true, apart := false }
def ShortCopiesSaid : Prop := shortCopiesRow.holds Try.pinned (OpenSpec.ofChange shortCopiesSpec)

/-- ITS FALSE NEIGHBOUR: 'it returns false'. Refute it at one input. -/
def shortCopiesWrong : ChangeSpec := { name := "shortCopies", fn := fun _ => fun
  | [d1, d2, d3] => { results := [.lit (.bool false)], args := [d1, d2, d3] }
  | _ => none }
def ShortCopiesWrongFalsely : Prop := shortCopiesRow.holds Try.pinned (OpenSpec.ofChange shortCopiesWrong)

/- THE SECOND FORM. 'bulk': how many values and letters a reading holds, each counted each time it is reached (what is shared counts as often as it is met; a slice's spare places count too). A statement '..UptoSaid' is the law's where the arguments, and the package variables that the reading takes, are together of bulk at most 1048576: NARROWER than '..Said'. Prove '..Said' where nothing that the law and all that it calls make is longer than what came in: it says more and counts as full. Else prove '..UptoSaid'. A law counts once. -/
mutual
def uptoBulk {H : Type} : DataW H → Nat
  | .lit (.string bytes) => bytes.length + 1
  | .lit _ => 1
  | .nil => 1
  | .ptr d => uptoBulk d + 1
  | .slice elems spare => uptoBulkAll elems + uptoBulkAll spare + 1
  | .agg parts => uptoBulkAll parts + 1
  | .iface _ d => uptoBulk d + 1
  | .map entries => uptoBulkEntries entries + 1
  | .held _ => 1
def uptoBulkAll {H : Type} : List (DataW H) → Nat
  | [] => 0
  | d :: r => uptoBulk d + uptoBulkAll r
def uptoBulkEntries {H : Type} : List (Lit × DataW H) → Nat
  | [] => 0
  | x :: r => uptoBulkEntry x + uptoBulkEntries r
def uptoBulkEntry {H : Type} : Lit × DataW H → Nat
  | (.string bytes, d) => bytes.length + uptoBulk d + 1
  | (_, d) => uptoBulk d + 1
 end
def uptoSmall : (H : Type) → List (DataW H) → Bool := fun _ ds => decide (uptoBulkAll ds ≤ 1048576)
def OpenSpec.upto (s : _root_.Go.ChangeSpec) : _root_.Go.OpenSpec := { _root_.Go.OpenSpec.ofChange s with cond := some uptoSmall }

/-- 'gossamerlaw22.ShortPlays', WHERE WHAT IT READS IS OF BULK AT MOST 1048576: true; the input reads as it did. -/
def shortPlaysUptoRow : OpenClaim := { program := "ytmcojkkpanijjaa", sum := "73d190f854e4ac4b4faea36472ec21c6d8518f1ca5cf9eedfbeb4bda27a122c4", func := "gossamer/gossamerlaw22.ShortPlays", spec := "shortPlays", unfollowed := true, recurses := true, apart := false, narrowed := true }
def ShortPlaysUptoSaid : Prop := shortPlaysUptoRow.holds Try.pinned (OpenSpec.upto shortPlaysSpec)

/-- 'gossamerlaw22.ShortSketches', WHERE WHAT IT READS IS OF BULK AT MOST 1048576: true; the input reads as it did. -/
def shortSketchesUptoRow : OpenClaim := { program := "ytmcojkkpanijjaa", sum := "73d190f854e4ac4b4faea36472ec21c6d8518f1ca5cf9eedfbeb4bda27a122c4", func := "gossamer/gossamerlaw22.ShortSketches", spec := "shortSketches", unfollowed := true, recurses := true, apart := false, narrowed := true }
def ShortSketchesUptoSaid : Prop := shortSketchesUptoRow.holds Try.pinned (OpenSpec.upto shortSketchesSpec)

/-- 'gossamerlaw22.ShortCopies', WHERE WHAT IT READS IS OF BULK AT MOST 1048576: true; the input reads as it did. -/
def shortCopiesUptoRow : OpenClaim := { program := "ytmcojkkpanijjaa", sum := "73d190f854e4ac4b4faea36472ec21c6d8518f1ca5cf9eedfbeb4bda27a122c4", func := "gossamer/gossamerlaw22.ShortCopies", spec := "shortCopies", inPlace := ["maps.clone"], unfollowed := true, recurses := true, apart := false, narrowed := true }
def ShortCopiesUptoSaid : Prop := shortCopiesUptoRow.holds Try.pinned (OpenSpec.upto shortCopiesSpec)

end Rows
end Go.Proofs.Ytmcojkkpanijjaa
