/-
  No cell of these rows narrows 'for every input' (looked for: loops, veiled, ifaces, maps, wideKeys, modest, calm, conditions, laid).
  DERIVED. THE GIVEN ROWS OF THIS SEAT. 4 by the template 'for every input the law returns true; each argument reads behind the call as it read before'; 0 by the template 'total and deterministic' (their statements: YtgpbkgfkmengaaaTotals.lean).
  GIVEN WITH THE SEED: the statements are not yours to turn. If you find one false, say at which input.
  Laid BY PROGRAM, IN A SANDBOX (cutbox-rows.mjs): the forced cells as the released guide's own fill.sh prints them over the translation 09fcb03e2cef41cf… (all of the seat's roots in one cut). By AI agents, Wed Nov 11 2026. No macro, syntax, notation, axiom, sorry.
-/
import Derived.Test.YtgpbkgfkmengaaaChecked
import GoSem.Claim
import GoSem.ClaimJoined
import GoSem.ClaimMapViews
import Derived.JoinedTies
import Derived.KernelRfl
namespace Go.Proofs.Ytgpbkgfkmengaaa
/- THE CELL 'sum', in the pinned program and in every row, IS THE sha256 OF THE DUMP (.gsa) THAT YtgpbkgfkmengaaaProg.lean LOADS. Nothing in Lean hashes anything: it is a label: what it is worth is what the hold of that sum in a sandbox is worth. -/
noncomputable def Try.pinned : Pinned := { name := "ytgpbkgfkmengaaa", sum := "09fcb03e2cef41cf5b2901ebf028ba8c59e28209a13a7193c0797a7ed1fd8316", checked := Try.checked }
namespace Rows
def none {H : Type} : Left H := { results := [], args := [] }

/-- 'gossamerlaw09.AmountRates': WHATEVER THE INPUT: true; the input reads as it did. -/
def amountRatesSpec : ChangeSpec := { name := "amountRates", fn := fun _ => fun
  | [d1, d2] => { results := [.lit (.bool true)], args := [d1, d2] }
  | _ => none }
def amountRatesRow : OpenClaim := { program := "ytgpbkgfkmengaaa", sum := "09fcb03e2cef41cf5b2901ebf028ba8c59e28209a13a7193c0797a7ed1fd8316", func := "gossamer/gossamerlaw09.AmountRates", spec := "amountRates", apart := false }
def AmountRatesSaid : Prop := amountRatesRow.holds Try.pinned (OpenSpec.ofChange amountRatesSpec)

/-- ITS FALSE NEIGHBOUR: 'it returns false'. Refute it at one input. -/
def amountRatesWrong : ChangeSpec := { name := "amountRates", fn := fun _ => fun
  | [d1, d2] => { results := [.lit (.bool false)], args := [d1, d2] }
  | _ => none }
def AmountRatesWrongFalsely : Prop := amountRatesRow.holds Try.pinned (OpenSpec.ofChange amountRatesWrong)

/-- 'gossamerlaw09.AmountNeeds': WHATEVER THE INPUT: true; the input reads as it did. -/
def amountNeedsSpec : ChangeSpec := { name := "amountNeeds", fn := fun _ => fun
  | [d1, d2, d3] => { results := [.lit (.bool true)], args := [d1, d2, d3] }
  | _ => none }
def amountNeedsRow : OpenClaim := { program := "ytgpbkgfkmengaaa", sum := "09fcb03e2cef41cf5b2901ebf028ba8c59e28209a13a7193c0797a7ed1fd8316", func := "gossamer/gossamerlaw09.AmountNeeds", spec := "amountNeeds", apart := false }
def AmountNeedsSaid : Prop := amountNeedsRow.holds Try.pinned (OpenSpec.ofChange amountNeedsSpec)

/-- ITS FALSE NEIGHBOUR: 'it returns false'. Refute it at one input. -/
def amountNeedsWrong : ChangeSpec := { name := "amountNeeds", fn := fun _ => fun
  | [d1, d2, d3] => { results := [.lit (.bool false)], args := [d1, d2, d3] }
  | _ => none }
def AmountNeedsWrongFalsely : Prop := amountNeedsRow.holds Try.pinned (OpenSpec.ofChange amountNeedsWrong)

/-- 'gossamerlaw09.AmountOrders': WHATEVER THE INPUT: true; the input reads as it did. -/
def amountOrdersSpec : ChangeSpec := { name := "amountOrders", fn := fun _ => fun
  | [d1, d2, d3] => { results := [.lit (.bool true)], args := [d1, d2, d3] }
  | _ => none }
def amountOrdersRow : OpenClaim := { program := "ytgpbkgfkmengaaa", sum := "09fcb03e2cef41cf5b2901ebf028ba8c59e28209a13a7193c0797a7ed1fd8316", func := "gossamer/gossamerlaw09.AmountOrders", spec := "amountOrders", apart := false }
def AmountOrdersSaid : Prop := amountOrdersRow.holds Try.pinned (OpenSpec.ofChange amountOrdersSpec)

/-- ITS FALSE NEIGHBOUR: 'it returns false'. Refute it at one input. -/
def amountOrdersWrong : ChangeSpec := { name := "amountOrders", fn := fun _ => fun
  | [d1, d2, d3] => { results := [.lit (.bool false)], args := [d1, d2, d3] }
  | _ => none }
def AmountOrdersWrongFalsely : Prop := amountOrdersRow.holds Try.pinned (OpenSpec.ofChange amountOrdersWrong)

/-- 'gossamerlaw09.AmountTotals': WHATEVER THE INPUT: true; the input reads as it did. -/
def amountTotalsSpec : ChangeSpec := { name := "amountTotals", fn := fun _ => fun
  | [d1, d2, d3] => { results := [.lit (.bool true)], args := [d1, d2, d3] }
  | _ => none }
def amountTotalsRow : OpenClaim := { program := "ytgpbkgfkmengaaa", sum := "09fcb03e2cef41cf5b2901ebf028ba8c59e28209a13a7193c0797a7ed1fd8316", func := "gossamer/gossamerlaw09.AmountTotals", spec := "amountTotals", apart := false }
def AmountTotalsSaid : Prop := amountTotalsRow.holds Try.pinned (OpenSpec.ofChange amountTotalsSpec)

/-- ITS FALSE NEIGHBOUR: 'it returns false'. Refute it at one input. -/
def amountTotalsWrong : ChangeSpec := { name := "amountTotals", fn := fun _ => fun
  | [d1, d2, d3] => { results := [.lit (.bool false)], args := [d1, d2, d3] }
  | _ => none }
def AmountTotalsWrongFalsely : Prop := amountTotalsRow.holds Try.pinned (OpenSpec.ofChange amountTotalsWrong)

/- THE SECOND FORM. 'bulk': how many values and letters a reading holds, each counted each time it is reached (what is shared counts as often as it is met; a slice's spare places count too). A statement '..UptoSaid' is the law's where the arguments, and the package variables that the reading takes, are together of bulk at most 1048576: NARROWER than '..Said'. Prove '..Said' where nothing that the law and all that it calls make is longer than what came in: it says more and counts as full. Else prove '..UptoSaid'. A law counts once. -/
mutual
def uptoBulk {H : Type} : DataW H → Nat
  | .lit (.string bytes) => bytes.length + 1
  | .lit _ => 1
  | .nil => 1
  | .ptr d => uptoBulk d + 1
  | .slice elems spare => uptoBulkAll elems + uptoBulkAll spare + 1
  | .agg parts => uptoBulkAll parts + 1
  | .iface _ d => uptoBulk d + 1
  | .map entries => uptoBulkEntries entries + 1
  | .held _ => 1
def uptoBulkAll {H : Type} : List (DataW H) → Nat
  | [] => 0
  | d :: r => uptoBulk d + uptoBulkAll r
def uptoBulkEntries {H : Type} : List (Lit × DataW H) → Nat
  | [] => 0
  | x :: r => uptoBulkEntry x + uptoBulkEntries r
def uptoBulkEntry {H : Type} : Lit × DataW H → Nat
  | (.string bytes, d) => bytes.length + uptoBulk d + 1
  | (_, d) => uptoBulk d + 1
 end
def uptoSmall : (H : Type) → List (DataW H) → Bool := fun _ ds => decide (uptoBulkAll ds ≤ 1048576)
def OpenSpec.upto (s : _root_.Go.ChangeSpec) : _root_.Go.OpenSpec := { _root_.Go.OpenSpec.ofChange s with cond := some uptoSmall }

/-- 'gossamerlaw09.AmountRates', WHERE WHAT IT READS IS OF BULK AT MOST 1048576: true; the input reads as it did. -/
def amountRatesUptoRow : OpenClaim := { program := "ytgpbkgfkmengaaa", sum := "09fcb03e2cef41cf5b2901ebf028ba8c59e28209a13a7193c0797a7ed1fd8316", func := "gossamer/gossamerlaw09.AmountRates", spec := "amountRates", apart := false, narrowed := true }
def AmountRatesUptoSaid : Prop := amountRatesUptoRow.holds Try.pinned (OpenSpec.upto amountRatesSpec)

/-- 'gossamerlaw09.AmountNeeds', WHERE WHAT IT READS IS OF BULK AT MOST 1048576: true; the input reads as it did. -/
def amountNeedsUptoRow : OpenClaim := { program := "ytgpbkgfkmengaaa", sum := "09fcb03e2cef41cf5b2901ebf028ba8c59e28209a13a7193c0797a7ed1fd8316", func := "gossamer/gossamerlaw09.AmountNeeds", spec := "amountNeeds", apart := false, narrowed := true }
def AmountNeedsUptoSaid : Prop := amountNeedsUptoRow.holds Try.pinned (OpenSpec.upto amountNeedsSpec)

/-- 'gossamerlaw09.AmountOrders', WHERE WHAT IT READS IS OF BULK AT MOST 1048576: true; the input reads as it did. -/
def amountOrdersUptoRow : OpenClaim := { program := "ytgpbkgfkmengaaa", sum := "09fcb03e2cef41cf5b2901ebf028ba8c59e28209a13a7193c0797a7ed1fd8316", func := "gossamer/gossamerlaw09.AmountOrders", spec := "amountOrders", apart := false, narrowed := true }
def AmountOrdersUptoSaid : Prop := amountOrdersUptoRow.holds Try.pinned (OpenSpec.upto amountOrdersSpec)

/-- 'gossamerlaw09.AmountTotals', WHERE WHAT IT READS IS OF BULK AT MOST 1048576: true; the input reads as it did. -/
def amountTotalsUptoRow : OpenClaim := { program := "ytgpbkgfkmengaaa", sum := "09fcb03e2cef41cf5b2901ebf028ba8c59e28209a13a7193c0797a7ed1fd8316", func := "gossamer/gossamerlaw09.AmountTotals", spec := "amountTotals", apart := false, narrowed := true }
def AmountTotalsUptoSaid : Prop := amountTotalsUptoRow.holds Try.pinned (OpenSpec.upto amountTotalsSpec)

end Rows
end Go.Proofs.Ytgpbkgfkmengaaa
