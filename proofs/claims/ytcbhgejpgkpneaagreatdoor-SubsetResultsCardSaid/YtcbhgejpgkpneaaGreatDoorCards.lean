/-
  DERIVED. GIVEN WITH THE SEED: THE CARDS: each row of YtcbhgejpgkpneaaGreatDoorRows.lean that lists a variable, with what it lists TIED to the program's text (the seventh form; the later family's looks); each row that meets fmt, with fmt's text TOLD by the authors' own Lean function (tested against real Go, not proved from fmt's source: count such statements apart). THE CARD IS WHAT COUNTS. Prove the row's statement (the work); the ties are given (YtcbhgejpgkpneaaGreatDoorTie.lean); close each card by the builder's one call (the guide's Derived/Test/ToyasCard.lean, 'card_holds'). Laid BY PROGRAM, IN A SANDBOX (cutbox-door.mjs). By AI agents, Wed Nov 11 2026. No macro, syntax, notation, axiom, sorry.
-/
import Derived.Test.YtcbhgejpgkpneaaGreatDoorRows
import GoSem.ClaimSeven
namespace Go.Proofs.YtcbhgejpgkpneaaGreatDoor
namespace Rows

/-- THE TIED CARD OF 'groovelaw12.SubsetResults'. -/
def subsetResultsCard : Claim7 := { stood := { row := subsetResultsRow, standIns := [], harness := (true, "74d1dceeb8736d3f7203f235bea05ccdf61779f7f1d55b3677ab7fda03faa997"), looks := false }, kinds := [], alts := [], laidByText := true, laidKinds := [.data, .data, .data], laidTests := true, laidLooks := .later }
def SubsetResultsCardSaid : Prop := Claim7.holds Tryz.pinned (.plain (OpenSpec.ofChange subsetResultsSpec)) subsetResultsCard

/-- THE SECOND FORM's CARD OF 'groovelaw12.SubsetResults'. -/
def subsetResultsUptoCard : Claim7 := { stood := { row := subsetResultsUptoRow, standIns := [], harness := (true, "74d1dceeb8736d3f7203f235bea05ccdf61779f7f1d55b3677ab7fda03faa997"), looks := false }, kinds := [], alts := [], laidByText := true, laidKinds := [.data, .data, .data], laidTests := true, laidLooks := .later }
def SubsetResultsUptoCardSaid : Prop := Claim7.holds Tryz.pinned (.plain (OpenSpec.upto subsetResultsSpec)) subsetResultsUptoCard
end Rows
end Go.Proofs.YtcbhgejpgkpneaaGreatDoor
