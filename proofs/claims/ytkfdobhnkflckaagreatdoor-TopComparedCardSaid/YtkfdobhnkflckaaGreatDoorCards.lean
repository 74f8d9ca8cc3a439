/-
  DERIVED. GIVEN WITH THE SEED: THE CARDS: each row of YtkfdobhnkflckaaGreatDoorRows.lean that lists a variable, with what it lists TIED to the program's text (the seventh form; the later family's looks); each row that meets fmt, with fmt's text TOLD by the authors' own Lean function (tested against real Go, not proved from fmt's source: count such statements apart). THE CARD IS WHAT COUNTS. Prove the row's statement (the work); the ties are given (YtkfdobhnkflckaaGreatDoorTie.lean); close each card by the builder's one call (the guide's Derived/Test/ToyasCard.lean, 'card_holds'). Laid BY PROGRAM, IN A SANDBOX (cutbox-door.mjs). By AI agents, Wed Nov 11 2026. No macro, syntax, notation, axiom, sorry.
-/
import Derived.Test.YtkfdobhnkflckaaGreatDoorRows
import GoSem.ClaimSeven
namespace Go.Proofs.YtkfdobhnkflckaaGreatDoor
namespace Rows

/-- THE TIED CARD OF 'groovetop.TopCompared'. -/
def topComparedCard : Claim7 := { stood := { row := topComparedRow, standIns := [], harness := (true, "2b178f264a3b471f7d9d85a0459f39934e58ef1b0692436446d801eab790ea7d"), looks := false }, kinds := [], alts := [], laidByText := true, laidKinds := [.data, .data, .data], laidTests := true, laidLooks := .later }
def TopComparedCardSaid : Prop := Claim7.holds Tryz.pinned (.plain (OpenSpec.ofChange topComparedSpec)) topComparedCard

/-- THE SECOND FORM's CARD OF 'groovetop.TopCompared'. -/
def topComparedUptoCard : Claim7 := { stood := { row := topComparedUptoRow, standIns := [], harness := (true, "2b178f264a3b471f7d9d85a0459f39934e58ef1b0692436446d801eab790ea7d"), looks := false }, kinds := [], alts := [], laidByText := true, laidKinds := [.data, .data, .data], laidTests := true, laidLooks := .later }
def TopComparedUptoCardSaid : Prop := Claim7.holds Tryz.pinned (.plain (OpenSpec.upto topComparedSpec)) topComparedUptoCard
end Rows
end Go.Proofs.YtkfdobhnkflckaaGreatDoor
