/-
  No cell of these rows narrows 'for every input' (looked for: loops, veiled, ifaces, maps, wideKeys, modest, calm, conditions, laid).
  DERIVED. THE GIVEN ROWS OF THIS SEAT. 2 by the template 'for every input the law returns true; each argument reads behind the call as it read before'; 0 by the template 'total and deterministic' (their statements: YtpdednminpkobaaTotals.lean).
  GIVEN WITH THE SEED: the statements are not yours to turn. If you find one false, say at which input.
  Laid BY PROGRAM, IN A SANDBOX (cutbox-rows.mjs): the forced cells as the released guide's own fill.sh prints them over the translation 81cf500fd8cdec62… (all of the seat's roots in one cut). By AI agents, Wed Nov 11 2026. No macro, syntax, notation, axiom, sorry.
-/
import Derived.Test.YtpdednminpkobaaChecked
import GoSem.Claim
import GoSem.ClaimJoined
import GoSem.ClaimMapViews
import Derived.JoinedTies
import Derived.KernelRfl
namespace Go.Proofs.Ytpdednminpkobaa
/- THE CELL 'sum', in the pinned program and in every row, IS THE sha256 OF THE DUMP (.gsa) THAT YtpdednminpkobaaProg.lean LOADS. Nothing in Lean hashes anything: it is a label: what it is worth is what the hold of that sum in a sandbox is worth. -/
noncomputable def Try.pinned : Pinned := { name := "ytpdednminpkobaa", sum := "81cf500fd8cdec62e14d5e22cebeeabf554fe9d708f4f0007f364256ca46460c", checked := Try.checked }
namespace Rows
def none {H : Type} : Left H := { results := [], args := [] }

/-- 'groovelaw11.LanguageWords': WHATEVER THE INPUT: true; the input reads as it did. -/
def languageWordsSpec : ChangeSpec := { name := "languageWords", fn := fun _ => fun
  | [d1, d2] => { results := [.lit (.bool true)], args := [d1, d2] }
  | _ => none }
def languageWordsRow : OpenClaim := { program := "ytpdednminpkobaa", sum := "81cf500fd8cdec62e14d5e22cebeeabf554fe9d708f4f0007f364256ca46460c", func := "groove/groovelaw11.LanguageWords", spec := "languageWords", inPlace := ["internal/bytealg.IndexByteString", "internal/abi.NoEscape", "internal/bytealg.MakeNoZero"], unfollowed := true, recurses := true, apart := false }
def LanguageWordsSaid : Prop := languageWordsRow.holds Try.pinned (OpenSpec.ofChange languageWordsSpec)

/-- ITS FALSE NEIGHBOUR: 'it returns false'. Refute it at one input. -/
def languageWordsWrong : ChangeSpec := { name := "languageWords", fn := fun _ => fun
  | [d1, d2] => { results := [.lit (.bool false)], args := [d1, d2] }
  | _ => none }
def LanguageWordsWrongFalsely : Prop := languageWordsRow.holds Try.pinned (OpenSpec.ofChange languageWordsWrong)

/-- 'groovelaw11.LanguageMissing': WHATEVER THE INPUT: true; the input reads as it did. -/
def languageMissingSpec : ChangeSpec := { name := "languageMissing", fn := fun _ => fun
  | [d1, d2] => { results := [.lit (.bool true)], args := [d1, d2] }
  | _ => none }
def languageMissingRow : OpenClaim := { program := "ytpdednminpkobaa", sum := "81cf500fd8cdec62e14d5e22cebeeabf554fe9d708f4f0007f364256ca46460c", func := "groove/groovelaw11.LanguageMissing", spec := "languageMissing", inPlace := ["internal/bytealg.IndexByteString", "internal/abi.NoEscape", "internal/bytealg.MakeNoZero"], unfollowed := true, recurses := true, apart := false }
def LanguageMissingSaid : Prop := languageMissingRow.holds Try.pinned (OpenSpec.ofChange languageMissingSpec)

/-- ITS FALSE NEIGHBOUR: 'it returns false'. Refute it at one input. -/
def languageMissingWrong : ChangeSpec := { name := "languageMissing", fn := fun _ => fun
  | [d1, d2] => { results := [.lit (.bool false)], args := [d1, d2] }
  | _ => none }
def LanguageMissingWrongFalsely : Prop := languageMissingRow.holds Try.pinned (OpenSpec.ofChange languageMissingWrong)

/- THE SECOND FORM. 'bulk': how many values and letters a reading holds, each counted each time it is reached (what is shared counts as often as it is met; a slice's spare places count too). A statement '..UptoSaid' is the law's where the arguments, and the package variables that the reading takes, are together of bulk at most 1048576: NARROWER than '..Said'. Prove '..Said' where nothing that the law and all that it calls make is longer than what came in: it says more and counts as full. Else prove '..UptoSaid'. A law counts once. -/
mutual
def uptoBulk {H : Type} : DataW H → Nat
  | .lit (.string bytes) => bytes.length + 1
  | .lit _ => 1
  | .nil => 1
  | .ptr d => uptoBulk d + 1
  | .slice elems spare => uptoBulkAll elems + uptoBulkAll spare + 1
  | .agg parts => uptoBulkAll parts + 1
  | .iface _ d => uptoBulk d + 1
  | .map entries => uptoBulkEntries entries + 1
  | .held _ => 1
def uptoBulkAll {H : Type} : List (DataW H) → Nat
  | [] => 0
  | d :: r => uptoBulk d + uptoBulkAll r
def uptoBulkEntries {H : Type} : List (Lit × DataW H) → Nat
  | [] => 0
  | x :: r => uptoBulkEntry x + uptoBulkEntries r
def uptoBulkEntry {H : Type} : Lit × DataW H → Nat
  | (.string bytes, d) => bytes.length + uptoBulk d + 1
  | (_, d) => uptoBulk d + 1
 end
def uptoSmall : (H : Type) → List (DataW H) → Bool := fun _ ds => decide (uptoBulkAll ds ≤ 1048576)
def OpenSpec.upto (s : _root_.Go.ChangeSpec) : _root_.Go.OpenSpec := { _root_.Go.OpenSpec.ofChange s with cond := some uptoSmall }

/-- 'groovelaw11.LanguageWords', WHERE WHAT IT READS IS OF BULK AT MOST 1048576: true; the input reads as it did. -/
def languageWordsUptoRow : OpenClaim := { program := "ytpdednminpkobaa", sum := "81cf500fd8cdec62e14d5e22cebeeabf554fe9d708f4f0007f364256ca46460c", func := "groove/groovelaw11.LanguageWords", spec := "languageWords", inPlace := ["internal/bytealg.IndexByteString", "internal/abi.NoEscape", "internal/bytealg.MakeNoZero"], unfollowed := true, recurses := true, apart := false, narrowed := true }
def LanguageWordsUptoSaid : Prop := languageWordsUptoRow.holds Try.pinned (OpenSpec.upto languageWordsSpec)

/-- 'groovelaw11.LanguageMissing', WHERE WHAT IT READS IS OF BULK AT MOST 1048576: true; the input reads as it did. -/
def languageMissingUptoRow : OpenClaim := { program := "ytpdednminpkobaa", sum := "81cf500fd8cdec62e14d5e22cebeeabf554fe9d708f4f0007f364256ca46460c", func := "groove/groovelaw11.LanguageMissing", spec := "languageMissing", inPlace := ["internal/bytealg.IndexByteString", "internal/abi.NoEscape", "internal/bytealg.MakeNoZero"], unfollowed := true, recurses := true, apart := false, narrowed := true }
def LanguageMissingUptoSaid : Prop := languageMissingUptoRow.holds Try.pinned (OpenSpec.upto languageMissingSpec)

end Rows
end Go.Proofs.Ytpdednminpkobaa
