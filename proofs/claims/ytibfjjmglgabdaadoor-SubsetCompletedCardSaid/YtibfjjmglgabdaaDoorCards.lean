/-
  DERIVED. GIVEN WITH THE SEED: THE CARDS: each row of YtibfjjmglgabdaaDoorRows.lean that lists a variable, with what it lists TIED to the program's text (the seventh form; the later family's looks); each row that meets fmt, with fmt's text TOLD by the authors' own Lean function (tested against real Go, not proved from fmt's source: count such statements apart). THE CARD IS WHAT COUNTS. Prove the row's statement (the work); the ties are given (YtibfjjmglgabdaaDoorTie.lean); close each card by the builder's one call (the guide's Derived/Test/ToyasCard.lean, 'card_holds'). Laid BY PROGRAM, IN A SANDBOX (cutbox-door.mjs). By AI agents, Wed Nov 11 2026. No macro, syntax, notation, axiom, sorry.
-/
import Derived.Test.YtibfjjmglgabdaaDoorRows
import GoSem.ClaimSeven
namespace Go.Proofs.YtibfjjmglgabdaaDoor
namespace Rows

/-- THE TIED CARD OF 'groovelaw12.SubsetFoci'. -/
def subsetFociCard : Claim7 := { stood := { row := subsetFociRow, standIns := [], harness := (true, "5f2bcb0e1707f4173c1cea7fa27a34a29ed9402e095b813ed716ce170741e310"), looks := false }, kinds := [], alts := [], laidByText := true, laidKinds := [.data, .data, .data], laidTests := true, laidLooks := .later }
def SubsetFociCardSaid : Prop := Claim7.holds Tryd.pinned (.plain (OpenSpec.ofChange subsetFociSpec)) subsetFociCard

/-- THE TIED CARD OF 'groovelaw12.SubsetBuilds'. -/
def subsetBuildsCard : Claim7 := { stood := { row := subsetBuildsRow, standIns := [], harness := (true, "5f2bcb0e1707f4173c1cea7fa27a34a29ed9402e095b813ed716ce170741e310"), looks := false }, kinds := [], alts := [], laidByText := true, laidKinds := [.data, .data, .data], laidTests := true, laidLooks := .later }
def SubsetBuildsCardSaid : Prop := Claim7.holds Tryd.pinned (.plain (OpenSpec.ofChange subsetBuildsSpec)) subsetBuildsCard

/-- THE TIED CARD OF 'groovelaw12.SubsetSets'. -/
def subsetSetsCard : Claim7 := { stood := { row := subsetSetsRow, standIns := [], harness := (true, "5f2bcb0e1707f4173c1cea7fa27a34a29ed9402e095b813ed716ce170741e310"), looks := false }, kinds := [], alts := [], laidByText := true, laidKinds := [.data, .data, .data], laidTests := true, laidLooks := .later }
def SubsetSetsCardSaid : Prop := Claim7.holds Tryd.pinned (.plain (OpenSpec.ofChange subsetSetsSpec)) subsetSetsCard

/-- THE TIED CARD OF 'groovelaw12.SubsetAgain'. -/
def subsetAgainCard : Claim7 := { stood := { row := subsetAgainRow, standIns := [], harness := (true, "5f2bcb0e1707f4173c1cea7fa27a34a29ed9402e095b813ed716ce170741e310"), looks := false }, kinds := [], alts := [], laidByText := true, laidKinds := [.data, .data, .data], laidTests := true, laidLooks := .later }
def SubsetAgainCardSaid : Prop := Claim7.holds Tryd.pinned (.plain (OpenSpec.ofChange subsetAgainSpec)) subsetAgainCard

/-- THE TIED CARD OF 'groovelaw12.SubsetCompleted'. -/
def subsetCompletedCard : Claim7 := { stood := { row := subsetCompletedRow, standIns := [], harness := (true, "5f2bcb0e1707f4173c1cea7fa27a34a29ed9402e095b813ed716ce170741e310"), looks := false }, kinds := [], alts := [], laidByText := true, laidKinds := [.data, .data, .data], laidTests := true, laidLooks := .later }
def SubsetCompletedCardSaid : Prop := Claim7.holds Tryd.pinned (.plain (OpenSpec.ofChange subsetCompletedSpec)) subsetCompletedCard

/-- THE SECOND FORM's CARD OF 'groovelaw12.SubsetFoci'. -/
def subsetFociUptoCard : Claim7 := { stood := { row := subsetFociUptoRow, standIns := [], harness := (true, "5f2bcb0e1707f4173c1cea7fa27a34a29ed9402e095b813ed716ce170741e310"), looks := false }, kinds := [], alts := [], laidByText := true, laidKinds := [.data, .data, .data], laidTests := true, laidLooks := .later }
def SubsetFociUptoCardSaid : Prop := Claim7.holds Tryd.pinned (.plain (OpenSpec.upto subsetFociSpec)) subsetFociUptoCard

/-- THE SECOND FORM's CARD OF 'groovelaw12.SubsetBuilds'. -/
def subsetBuildsUptoCard : Claim7 := { stood := { row := subsetBuildsUptoRow, standIns := [], harness := (true, "5f2bcb0e1707f4173c1cea7fa27a34a29ed9402e095b813ed716ce170741e310"), looks := false }, kinds := [], alts := [], laidByText := true, laidKinds := [.data, .data, .data], laidTests := true, laidLooks := .later }
def SubsetBuildsUptoCardSaid : Prop := Claim7.holds Tryd.pinned (.plain (OpenSpec.upto subsetBuildsSpec)) subsetBuildsUptoCard

/-- THE SECOND FORM's CARD OF 'groovelaw12.SubsetSets'. -/
def subsetSetsUptoCard : Claim7 := { stood := { row := subsetSetsUptoRow, standIns := [], harness := (true, "5f2bcb0e1707f4173c1cea7fa27a34a29ed9402e095b813ed716ce170741e310"), looks := false }, kinds := [], alts := [], laidByText := true, laidKinds := [.data, .data, .data], laidTests := true, laidLooks := .later }
def SubsetSetsUptoCardSaid : Prop := Claim7.holds Tryd.pinned (.plain (OpenSpec.upto subsetSetsSpec)) subsetSetsUptoCard

/-- THE SECOND FORM's CARD OF 'groovelaw12.SubsetAgain'. -/
def subsetAgainUptoCard : Claim7 := { stood := { row := subsetAgainUptoRow, standIns := [], harness := (true, "5f2bcb0e1707f4173c1cea7fa27a34a29ed9402e095b813ed716ce170741e310"), looks := false }, kinds := [], alts := [], laidByText := true, laidKinds := [.data, .data, .data], laidTests := true, laidLooks := .later }
def SubsetAgainUptoCardSaid : Prop := Claim7.holds Tryd.pinned (.plain (OpenSpec.upto subsetAgainSpec)) subsetAgainUptoCard

/-- THE SECOND FORM's CARD OF 'groovelaw12.SubsetCompleted'. -/
def subsetCompletedUptoCard : Claim7 := { stood := { row := subsetCompletedUptoRow, standIns := [], harness := (true, "5f2bcb0e1707f4173c1cea7fa27a34a29ed9402e095b813ed716ce170741e310"), looks := false }, kinds := [], alts := [], laidByText := true, laidKinds := [.data, .data, .data], laidTests := true, laidLooks := .later }
def SubsetCompletedUptoCardSaid : Prop := Claim7.holds Tryd.pinned (.plain (OpenSpec.upto subsetCompletedSpec)) subsetCompletedUptoCard
end Rows
end Go.Proofs.YtibfjjmglgabdaaDoor
