/-
  DERIVED. GIVEN WITH THE SEED: THE CARDS: each row of YtgckiadiplcbeaaGreatDoorRows.lean that lists a variable, with what it lists TIED to the program's text (the seventh form; the later family's looks); each row that meets fmt, with fmt's text TOLD by the authors' own Lean function (tested against real Go, not proved from fmt's source: count such statements apart). THE CARD IS WHAT COUNTS. Prove the row's statement (the work); the ties are given (YtgckiadiplcbeaaGreatDoorTie.lean); close each card by the builder's one call (the guide's Derived/Test/ToyasCard.lean, 'card_holds'). Laid BY PROGRAM, IN A SANDBOX (cutbox-door.mjs). By AI agents, Wed Nov 11 2026. No macro, syntax, notation, axiom, sorry.
-/
import Derived.Test.YtgckiadiplcbeaaGreatDoorRows
import GoSem.ClaimSeven
namespace Go.Proofs.YtgckiadiplcbeaaGreatDoor
namespace Rows

/-- THE TIED CARD OF 'groovetop.TopSplitWords'. -/
def topSplitWordsCard : Claim7 := { stood := { row := topSplitWordsRow, standIns := [], harness := (true, "da1c88490be0455993ac8ed4b0585ed9ed1b59d70c773a352e7270aa8562683a"), looks := false }, kinds := [], alts := [], laidByText := true, laidKinds := [.data, .data, .data], laidTests := true, laidLooks := .later }
def TopSplitWordsCardSaid : Prop := Claim7.holds Tryz.pinned (.plain (OpenSpec.ofChange topSplitWordsSpec)) topSplitWordsCard

/-- THE SECOND FORM's CARD OF 'groovetop.TopSplitWords'. -/
def topSplitWordsUptoCard : Claim7 := { stood := { row := topSplitWordsUptoRow, standIns := [], harness := (true, "da1c88490be0455993ac8ed4b0585ed9ed1b59d70c773a352e7270aa8562683a"), looks := false }, kinds := [], alts := [], laidByText := true, laidKinds := [.data, .data, .data], laidTests := true, laidLooks := .later }
def TopSplitWordsUptoCardSaid : Prop := Claim7.holds Tryz.pinned (.plain (OpenSpec.upto topSplitWordsSpec)) topSplitWordsUptoCard
end Rows
end Go.Proofs.YtgckiadiplcbeaaGreatDoor
