/-
  DERIVED. GIVEN WITH THE SEED: THE CARDS: each row of YtibfjjmglgabdaaGreatDoorRows.lean that lists a variable, with what it lists TIED to the program's text (the seventh form; the later family's looks); each row that meets fmt, with fmt's text TOLD by the authors' own Lean function (tested against real Go, not proved from fmt's source: count such statements apart). THE CARD IS WHAT COUNTS. Prove the row's statement (the work); the ties are given (YtibfjjmglgabdaaGreatDoorTie.lean); close each card by the builder's one call (the guide's Derived/Test/ToyasCard.lean, 'card_holds'). Laid BY PROGRAM, IN A SANDBOX (cutbox-door.mjs). By AI agents, Wed Nov 11 2026. No macro, syntax, notation, axiom, sorry.
-/
import Derived.Test.YtibfjjmglgabdaaGreatDoorRows
import GoSem.ClaimSeven
namespace Go.Proofs.YtibfjjmglgabdaaGreatDoor
namespace Rows

/-- THE TIED CARD OF 'groovelaw12.SubsetResults'. -/
def subsetResultsCard : Claim7 := { stood := { row := subsetResultsRow, standIns := [], harness := (true, "0931a4c4a1872fdc45bf4db92971afda887e61484944d66ea274adc120686b7b"), looks := false }, kinds := [], alts := [], laidByText := true, laidKinds := [.data, .data, .data], laidTests := true, laidLooks := .later }
def SubsetResultsCardSaid : Prop := Claim7.holds Tryz.pinned (.plain (OpenSpec.ofChange subsetResultsSpec)) subsetResultsCard

/-- THE TIED CARD OF 'groovelaw12.SubsetWords'. -/
def subsetWordsCard : Claim7 := { stood := { row := subsetWordsRow, standIns := [], harness := (true, "0931a4c4a1872fdc45bf4db92971afda887e61484944d66ea274adc120686b7b"), looks := false }, kinds := [], alts := [], laidByText := true, laidKinds := [.data, .data, .data], laidTests := true, laidLooks := .later }
def SubsetWordsCardSaid : Prop := Claim7.holds Tryz.pinned (.plain (OpenSpec.ofChange subsetWordsSpec)) subsetWordsCard

/-- THE SECOND FORM's CARD OF 'groovelaw12.SubsetResults'. -/
def subsetResultsUptoCard : Claim7 := { stood := { row := subsetResultsUptoRow, standIns := [], harness := (true, "0931a4c4a1872fdc45bf4db92971afda887e61484944d66ea274adc120686b7b"), looks := false }, kinds := [], alts := [], laidByText := true, laidKinds := [.data, .data, .data], laidTests := true, laidLooks := .later }
def SubsetResultsUptoCardSaid : Prop := Claim7.holds Tryz.pinned (.plain (OpenSpec.upto subsetResultsSpec)) subsetResultsUptoCard

/-- THE SECOND FORM's CARD OF 'groovelaw12.SubsetWords'. -/
def subsetWordsUptoCard : Claim7 := { stood := { row := subsetWordsUptoRow, standIns := [], harness := (true, "0931a4c4a1872fdc45bf4db92971afda887e61484944d66ea274adc120686b7b"), looks := false }, kinds := [], alts := [], laidByText := true, laidKinds := [.data, .data, .data], laidTests := true, laidLooks := .later }
def SubsetWordsUptoCardSaid : Prop := Claim7.holds Tryz.pinned (.plain (OpenSpec.upto subsetWordsSpec)) subsetWordsUptoCard
end Rows
end Go.Proofs.YtibfjjmglgabdaaGreatDoor
