/-
  DERIVED. GIVEN WITH THE SEED: THE CARDS: each row of YtnfbggalhcceoaaDoorRows.lean that lists a variable, with what it lists TIED to the program's text (the seventh form; the later family's looks); each row that meets fmt, with fmt's text TOLD by the authors' own Lean function (tested against real Go, not proved from fmt's source: count such statements apart). THE CARD IS WHAT COUNTS. Prove the row's statement (the work); the ties are given (YtnfbggalhcceoaaDoorTie.lean); close each card by the builder's one call (the guide's Derived/Test/ToyasCard.lean, 'card_holds'). Laid BY PROGRAM, IN A SANDBOX (cutbox-door.mjs). By AI agents, Wed Nov 11 2026. No macro, syntax, notation, axiom, sorry.
-/
import Derived.Test.YtnfbggalhcceoaaDoorRows
import GoSem.ClaimSeven
namespace Go.Proofs.YtnfbggalhcceoaaDoor
namespace Rows

/-- THE TIED CARD OF 'groovetop.TopResetParsers'. -/
def topResetParsersCard : Claim7 := { stood := { row := topResetParsersRow, standIns := [], harness := (true, "2eb7cacd1ba3489c6db7e1a2c0bb87b3466afac83b9c9f6ff1121f7cf8cfe88b"), looks := false }, kinds := [], alts := [], laidByText := true, laidKinds := [.data, .data], laidTests := true, laidLooks := .later }
def TopResetParsersCardSaid : Prop := Claim7.holds Tryd.pinned (.plain (OpenSpec.ofChange topResetParsersSpec)) topResetParsersCard

/-- THE SECOND FORM's CARD OF 'groovetop.TopResetParsers'. -/
def topResetParsersUptoCard : Claim7 := { stood := { row := topResetParsersUptoRow, standIns := [], harness := (true, "2eb7cacd1ba3489c6db7e1a2c0bb87b3466afac83b9c9f6ff1121f7cf8cfe88b"), looks := false }, kinds := [], alts := [], laidByText := true, laidKinds := [.data, .data], laidTests := true, laidLooks := .later }
def TopResetParsersUptoCardSaid : Prop := Claim7.holds Tryd.pinned (.plain (OpenSpec.upto topResetParsersSpec)) topResetParsersUptoCard
end Rows
end Go.Proofs.YtnfbggalhcceoaaDoor
