/-
  DERIVED. GIVEN WITH THE SEED: THE CARDS: each row of YtmcojkkpanijjaaDoorRows.lean that lists a variable, with what it lists TIED to the program's text (the seventh form; the later family's looks); each row that meets fmt, with fmt's text TOLD by the authors' own Lean function (tested against real Go, not proved from fmt's source: count such statements apart). THE CARD IS WHAT COUNTS. Prove the row's statement (the work); the ties are given (YtmcojkkpanijjaaDoorTie.lean); close each card by the builder's one call (the guide's Derived/Test/ToyasCard.lean, 'card_holds'). Laid BY PROGRAM, IN A SANDBOX (cutbox-door.mjs). By AI agents, Wed Nov 11 2026. No macro, syntax, notation, axiom, sorry.
-/
import Derived.Test.YtmcojkkpanijjaaDoorRows
import GoSem.ClaimSeven
namespace Go.Proofs.YtmcojkkpanijjaaDoor
namespace Rows

/-- THE TIED CARD OF 'gossamerlaw31.StoryBodies'. -/
def storyBodiesCard : Claim7 := { stood := { row := storyBodiesRow, standIns := [], harness := (true, "f15583bf49a18a92ff7158badee9a814668f028a9b0579007750a4807b60c961"), looks := true }, kinds := [], alts := [], laidByText := true, laidKinds := [.data, .data, .data], laidTests := true, laidLooks := .later }
def StoryBodiesCardSaid : Prop := Claim7.holds Tryd.pinned (.plain (OpenSpec.ofChange storyBodiesSpec)) storyBodiesCard

/-- THE TIED CARD OF 'gossamerlaw31.StoryCounts'. -/
def storyCountsCard : Claim7 := { stood := { row := storyCountsRow, standIns := [], harness := (true, "f15583bf49a18a92ff7158badee9a814668f028a9b0579007750a4807b60c961"), looks := true }, kinds := [], alts := [], laidByText := true, laidKinds := [.data, .data, .data], laidTests := true, laidLooks := .later }
def StoryCountsCardSaid : Prop := Claim7.holds Tryd.pinned (.plain (OpenSpec.ofChange storyCountsSpec)) storyCountsCard

/-- THE SECOND FORM's CARD OF 'gossamerlaw31.StoryBodies'. -/
def storyBodiesUptoCard : Claim7 := { stood := { row := storyBodiesUptoRow, standIns := [], harness := (true, "f15583bf49a18a92ff7158badee9a814668f028a9b0579007750a4807b60c961"), looks := true }, kinds := [], alts := [], laidByText := true, laidKinds := [.data, .data, .data], laidTests := true, laidLooks := .later }
def StoryBodiesUptoCardSaid : Prop := Claim7.holds Tryd.pinned (.plain (OpenSpec.upto storyBodiesSpec)) storyBodiesUptoCard

/-- THE SECOND FORM's CARD OF 'gossamerlaw31.StoryCounts'. -/
def storyCountsUptoCard : Claim7 := { stood := { row := storyCountsUptoRow, standIns := [], harness := (true, "f15583bf49a18a92ff7158badee9a814668f028a9b0579007750a4807b60c961"), looks := true }, kinds := [], alts := [], laidByText := true, laidKinds := [.data, .data, .data], laidTests := true, laidLooks := .later }
def StoryCountsUptoCardSaid : Prop := Claim7.holds Tryd.pinned (.plain (OpenSpec.upto storyCountsSpec)) storyCountsUptoCard
end Rows
end Go.Proofs.YtmcojkkpanijjaaDoor
