/-
  No cell of these rows narrows 'for every input' (looked for: loops, veiled, ifaces, maps, wideKeys, modest, calm, conditions, laid).
  DERIVED. THE GIVEN ROWS OF THIS SEAT. 11 by the template 'for every input the law returns true; each argument reads behind the call as it read before'; 0 by the template 'total and deterministic' (their statements: YtccnafddjjamoaaTotals.lean).
  GIVEN WITH THE SEED: the statements are not yours to turn. If you find one false, say at which input.
  Laid BY PROGRAM, IN A SANDBOX (cutbox-rows.mjs): the forced cells as the released guide's own fill.sh prints them over the translation dc7194a61b7ded62… (all of the seat's roots in one cut). By AI agents, Wed Nov 11 2026. No macro, syntax, notation, axiom, sorry.
-/
import Derived.Test.YtccnafddjjamoaaChecked
import GoSem.Claim
import GoSem.ClaimJoined
import GoSem.ClaimMapViews
import Derived.JoinedTies
import Derived.KernelRfl
namespace Go.Proofs.Ytccnafddjjamoaa
/- THE CELL 'sum', in the pinned program and in every row, IS THE sha256 OF THE DUMP (.gsa) THAT YtccnafddjjamoaaProg.lean LOADS. Nothing in Lean hashes anything: it is a label: what it is worth is what the hold of that sum in a sandbox is worth. -/
noncomputable def Try.pinned : Pinned := { name := "ytccnafddjjamoaa", sum := "dc7194a61b7ded621ac7537c7720436b36fa85ec958e28442d46f804df631797", checked := Try.checked }
namespace Rows
def none {H : Type} : Left H := { results := [], args := [] }

/-- 'groovelaw46.DistanceGraphs': WHATEVER THE INPUT: true; the input reads as it did. -/
def distanceGraphsSpec : ChangeSpec := { name := "distanceGraphs", fn := fun _ => fun
  | [d1, d2, d3] => { results := [.lit (.bool true)], args := [d1, d2, d3] }
  | _ => none }
def distanceGraphsRow : OpenClaim := { program := "ytccnafddjjamoaa", sum := "dc7194a61b7ded621ac7537c7720436b36fa85ec958e28442d46f804df631797", func := "groove/groovelaw46.DistanceGraphs", spec := "distanceGraphs", inPlace := ["internal/bytealg.IndexByteString"], unfollowed := true, recurses := true, apart := false }
def DistanceGraphsSaid : Prop := distanceGraphsRow.holds Try.pinned (OpenSpec.ofChange distanceGraphsSpec)

/-- ITS FALSE NEIGHBOUR: 'it returns false'. Refute it at one input. -/
def distanceGraphsWrong : ChangeSpec := { name := "distanceGraphs", fn := fun _ => fun
  | [d1, d2, d3] => { results := [.lit (.bool false)], args := [d1, d2, d3] }
  | _ => none }
def DistanceGraphsWrongFalsely : Prop := distanceGraphsRow.holds Try.pinned (OpenSpec.ofChange distanceGraphsWrong)

/-- 'groovelaw46.DistanceMetric': WHATEVER THE INPUT: true; the input reads as it did. -/
def distanceMetricSpec : ChangeSpec := { name := "distanceMetric", fn := fun _ => fun
  | [d1, d2, d3] => { results := [.lit (.bool true)], args := [d1, d2, d3] }
  | _ => none }
def distanceMetricRow : OpenClaim := { program := "ytccnafddjjamoaa", sum := "dc7194a61b7ded621ac7537c7720436b36fa85ec958e28442d46f804df631797", func := "groove/groovelaw46.DistanceMetric", spec := "distanceMetric", inPlace := ["internal/bytealg.IndexByteString"], unfollowed := true, recurses := true, apart := false }
def DistanceMetricSaid : Prop := distanceMetricRow.holds Try.pinned (OpenSpec.ofChange distanceMetricSpec)

/-- ITS FALSE NEIGHBOUR: 'it returns false'. Refute it at one input. -/
def distanceMetricWrong : ChangeSpec := { name := "distanceMetric", fn := fun _ => fun
  | [d1, d2, d3] => { results := [.lit (.bool false)], args := [d1, d2, d3] }
  | _ => none }
def DistanceMetricWrongFalsely : Prop := distanceMetricRow.holds Try.pinned (OpenSpec.ofChange distanceMetricWrong)

/-- 'groovelaw46.DistanceParts': WHATEVER THE INPUT: true; the input reads as it did. -/
def distancePartsSpec : ChangeSpec := { name := "distanceParts", fn := fun _ => fun
  | [d1, d2] => { results := [.lit (.bool true)], args := [d1, d2] }
  | _ => none }
def distancePartsRow : OpenClaim := { program := "ytccnafddjjamoaa", sum := "dc7194a61b7ded621ac7537c7720436b36fa85ec958e28442d46f804df631797", func := "groove/groovelaw46.DistanceParts", spec := "distanceParts", inPlace := ["internal/bytealg.IndexByteString"], unfollowed := true, recurses := true, apart := false }
def DistancePartsSaid : Prop := distancePartsRow.holds Try.pinned (OpenSpec.ofChange distancePartsSpec)

/-- ITS FALSE NEIGHBOUR: 'it returns false'. Refute it at one input. -/
def distancePartsWrong : ChangeSpec := { name := "distanceParts", fn := fun _ => fun
  | [d1, d2] => { results := [.lit (.bool false)], args := [d1, d2] }
  | _ => none }
def DistancePartsWrongFalsely : Prop := distancePartsRow.holds Try.pinned (OpenSpec.ofChange distancePartsWrong)

/-- 'groovelaw46.DistanceLists': WHATEVER THE INPUT: true; the input reads as it did. -/
def distanceListsSpec : ChangeSpec := { name := "distanceLists", fn := fun _ => fun
  | [d1, d2, d3] => { results := [.lit (.bool true)], args := [d1, d2, d3] }
  | _ => none }
def distanceListsRow : OpenClaim := { program := "ytccnafddjjamoaa", sum := "dc7194a61b7ded621ac7537c7720436b36fa85ec958e28442d46f804df631797", func := "groove/groovelaw46.DistanceLists", spec := "distanceLists", inPlace := ["internal/bytealg.IndexByteString"], unfollowed := true, recurses := true, apart := false }
def DistanceListsSaid : Prop := distanceListsRow.holds Try.pinned (OpenSpec.ofChange distanceListsSpec)

/-- ITS FALSE NEIGHBOUR: 'it returns false'. Refute it at one input. -/
def distanceListsWrong : ChangeSpec := { name := "distanceLists", fn := fun _ => fun
  | [d1, d2, d3] => { results := [.lit (.bool false)], args := [d1, d2, d3] }
  | _ => none }
def DistanceListsWrongFalsely : Prop := distanceListsRow.holds Try.pinned (OpenSpec.ofChange distanceListsWrong)

/-- 'groovelaw46.DistanceGreedy': WHATEVER THE INPUT: true; the input reads as it did. -/
def distanceGreedySpec : ChangeSpec := { name := "distanceGreedy", fn := fun _ => fun
  | [d1, d2, d3] => { results := [.lit (.bool true)], args := [d1, d2, d3] }
  | _ => none }
def distanceGreedyRow : OpenClaim := { program := "ytccnafddjjamoaa", sum := "dc7194a61b7ded621ac7537c7720436b36fa85ec958e28442d46f804df631797", func := "groove/groovelaw46.DistanceGreedy", spec := "distanceGreedy", inPlace := ["internal/bytealg.IndexByteString"], unfollowed := true, recurses := true, apart := false }
def DistanceGreedySaid : Prop := distanceGreedyRow.holds Try.pinned (OpenSpec.ofChange distanceGreedySpec)

/-- ITS FALSE NEIGHBOUR: 'it returns false'. Refute it at one input. -/
def distanceGreedyWrong : ChangeSpec := { name := "distanceGreedy", fn := fun _ => fun
  | [d1, d2, d3] => { results := [.lit (.bool false)], args := [d1, d2, d3] }
  | _ => none }
def DistanceGreedyWrongFalsely : Prop := distanceGreedyRow.holds Try.pinned (OpenSpec.ofChange distanceGreedyWrong)

/-- 'groovelaw11.LanguageParts': WHATEVER THE INPUT: true; the input reads as it did. -/
def languagePartsSpec : ChangeSpec := { name := "languageParts", fn := fun _ => fun
  | [d1, d2] => { results := [.lit (.bool true)], args := [d1, d2] }
  | _ => none }
def languagePartsRow : OpenClaim := { program := "ytccnafddjjamoaa", sum := "dc7194a61b7ded621ac7537c7720436b36fa85ec958e28442d46f804df631797", func := "groove/groovelaw11.LanguageParts", spec := "languageParts", inPlace := ["internal/bytealg.IndexByteString"], unfollowed := true, recurses := true, apart := false }
def LanguagePartsSaid : Prop := languagePartsRow.holds Try.pinned (OpenSpec.ofChange languagePartsSpec)

/-- ITS FALSE NEIGHBOUR: 'it returns false'. Refute it at one input. -/
def languagePartsWrong : ChangeSpec := { name := "languageParts", fn := fun _ => fun
  | [d1, d2] => { results := [.lit (.bool false)], args := [d1, d2] }
  | _ => none }
def LanguagePartsWrongFalsely : Prop := languagePartsRow.holds Try.pinned (OpenSpec.ofChange languagePartsWrong)

/-- 'groovelaw11.LanguageFactors': WHATEVER THE INPUT: true; the input reads as it did. -/
def languageFactorsSpec : ChangeSpec := { name := "languageFactors", fn := fun _ => fun
  | [d1, d2, d3, d4] => { results := [.lit (.bool true)], args := [d1, d2, d3, d4] }
  | _ => none }
def languageFactorsRow : OpenClaim := { program := "ytccnafddjjamoaa", sum := "dc7194a61b7ded621ac7537c7720436b36fa85ec958e28442d46f804df631797", func := "groove/groovelaw11.LanguageFactors", spec := "languageFactors", inPlace := ["internal/bytealg.IndexByteString"], unfollowed := true, recurses := true, apart := false }
def LanguageFactorsSaid : Prop := languageFactorsRow.holds Try.pinned (OpenSpec.ofChange languageFactorsSpec)

/-- ITS FALSE NEIGHBOUR: 'it returns false'. Refute it at one input. -/
def languageFactorsWrong : ChangeSpec := { name := "languageFactors", fn := fun _ => fun
  | [d1, d2, d3, d4] => { results := [.lit (.bool false)], args := [d1, d2, d3, d4] }
  | _ => none }
def LanguageFactorsWrongFalsely : Prop := languageFactorsRow.holds Try.pinned (OpenSpec.ofChange languageFactorsWrong)

/-- 'groovelaw11.LanguagePaths': WHATEVER THE INPUT: true; the input reads as it did. -/
def languagePathsSpec : ChangeSpec := { name := "languagePaths", fn := fun _ => fun
  | [d1, d2] => { results := [.lit (.bool true)], args := [d1, d2] }
  | _ => none }
def languagePathsRow : OpenClaim := { program := "ytccnafddjjamoaa", sum := "dc7194a61b7ded621ac7537c7720436b36fa85ec958e28442d46f804df631797", func := "groove/groovelaw11.LanguagePaths", spec := "languagePaths", inPlace := ["internal/bytealg.IndexByteString"], unfollowed := true, recurses := true, apart := false }
def LanguagePathsSaid : Prop := languagePathsRow.holds Try.pinned (OpenSpec.ofChange languagePathsSpec)

/-- ITS FALSE NEIGHBOUR: 'it returns false'. Refute it at one input. -/
def languagePathsWrong : ChangeSpec := { name := "languagePaths", fn := fun _ => fun
  | [d1, d2] => { results := [.lit (.bool false)], args := [d1, d2] }
  | _ => none }
def LanguagePathsWrongFalsely : Prop := languagePathsRow.holds Try.pinned (OpenSpec.ofChange languagePathsWrong)

/-- 'groovelaw11.LanguageLetters': WHATEVER THE INPUT: true; the input reads as it did. -/
def languageLettersSpec : ChangeSpec := { name := "languageLetters", fn := fun _ => fun
  | [d1, d2] => { results := [.lit (.bool true)], args := [d1, d2] }
  | _ => none }
def languageLettersRow : OpenClaim := { program := "ytccnafddjjamoaa", sum := "dc7194a61b7ded621ac7537c7720436b36fa85ec958e28442d46f804df631797", func := "groove/groovelaw11.LanguageLetters", spec := "languageLetters", inPlace := ["internal/bytealg.IndexByteString", "internal/abi.NoEscape"], unfollowed := true, recurses := true, apart := false }
def LanguageLettersSaid : Prop := languageLettersRow.holds Try.pinned (OpenSpec.ofChange languageLettersSpec)

/-- ITS FALSE NEIGHBOUR: 'it returns false'. Refute it at one input. -/
def languageLettersWrong : ChangeSpec := { name := "languageLetters", fn := fun _ => fun
  | [d1, d2] => { results := [.lit (.bool false)], args := [d1, d2] }
  | _ => none }
def LanguageLettersWrongFalsely : Prop := languageLettersRow.holds Try.pinned (OpenSpec.ofChange languageLettersWrong)

/-- 'groovetop.TopTenengolts': WHATEVER THE INPUT: true; the input reads as it did. -/
def topTenengoltsSpec : ChangeSpec := { name := "topTenengolts", fn := fun _ => fun
  | [d1, d2] => { results := [.lit (.bool true)], args := [d1, d2] }
  | _ => none }
def topTenengoltsRow : OpenClaim := { program := "ytccnafddjjamoaa", sum := "dc7194a61b7ded621ac7537c7720436b36fa85ec958e28442d46f804df631797", func := "groove/groovetop.TopTenengolts", spec := "topTenengolts", inPlace := ["internal/abi.NoEscape", "internal/bytealg.MakeNoZero", "internal/bytealg.IndexByteString"], unfollowed := true, recurses := true, apart := false }
def TopTenengoltsSaid : Prop := topTenengoltsRow.holds Try.pinned (OpenSpec.ofChange topTenengoltsSpec)

/-- ITS FALSE NEIGHBOUR: 'it returns false'. Refute it at one input. -/
def topTenengoltsWrong : ChangeSpec := { name := "topTenengolts", fn := fun _ => fun
  | [d1, d2] => { results := [.lit (.bool false)], args := [d1, d2] }
  | _ => none }
def TopTenengoltsWrongFalsely : Prop := topTenengoltsRow.holds Try.pinned (OpenSpec.ofChange topTenengoltsWrong)

/-- 'groovelaw46.DistanceFree': WHATEVER THE INPUT: true; the input reads as it did. -/
def distanceFreeSpec : ChangeSpec := { name := "distanceFree", fn := fun _ => fun
  | [d1, d2, d3] => { results := [.lit (.bool true)], args := [d1, d2, d3] }
  | _ => none }
def distanceFreeRow : OpenClaim := { program := "ytccnafddjjamoaa", sum := "dc7194a61b7ded621ac7537c7720436b36fa85ec958e28442d46f804df631797", func := "groove/groovelaw46.DistanceFree", spec := "distanceFree", inPlace := ["internal/bytealg.IndexByteString"], unfollowed := true, recurses := true, apart := false }
def DistanceFreeSaid : Prop := distanceFreeRow.holds Try.pinned (OpenSpec.ofChange distanceFreeSpec)

/-- ITS FALSE NEIGHBOUR: 'it returns false'. Refute it at one input. -/
def distanceFreeWrong : ChangeSpec := { name := "distanceFree", fn := fun _ => fun
  | [d1, d2, d3] => { results := [.lit (.bool false)], args := [d1, d2, d3] }
  | _ => none }
def DistanceFreeWrongFalsely : Prop := distanceFreeRow.holds Try.pinned (OpenSpec.ofChange distanceFreeWrong)

/- THE SECOND FORM. 'bulk': how many values and letters a reading holds, each counted each time it is reached (what is shared counts as often as it is met; a slice's spare places count too). A statement '..UptoSaid' is the law's where the arguments, and the package variables that the reading takes, are together of bulk at most 1048576: NARROWER than '..Said'. Prove '..Said' where nothing that the law and all that it calls make is longer than what came in: it says more and counts as full. Else prove '..UptoSaid'. A law counts once. -/
mutual
def uptoBulk {H : Type} : DataW H → Nat
  | .lit (.string bytes) => bytes.length + 1
  | .lit _ => 1
  | .nil => 1
  | .ptr d => uptoBulk d + 1
  | .slice elems spare => uptoBulkAll elems + uptoBulkAll spare + 1
  | .agg parts => uptoBulkAll parts + 1
  | .iface _ d => uptoBulk d + 1
  | .map entries => uptoBulkEntries entries + 1
  | .held _ => 1
def uptoBulkAll {H : Type} : List (DataW H) → Nat
  | [] => 0
  | d :: r => uptoBulk d + uptoBulkAll r
def uptoBulkEntries {H : Type} : List (Lit × DataW H) → Nat
  | [] => 0
  | x :: r => uptoBulkEntry x + uptoBulkEntries r
def uptoBulkEntry {H : Type} : Lit × DataW H → Nat
  | (.string bytes, d) => bytes.length + uptoBulk d + 1
  | (_, d) => uptoBulk d + 1
 end
def uptoSmall : (H : Type) → List (DataW H) → Bool := fun _ ds => decide (uptoBulkAll ds ≤ 1048576)
def OpenSpec.upto (s : _root_.Go.ChangeSpec) : _root_.Go.OpenSpec := { _root_.Go.OpenSpec.ofChange s with cond := some uptoSmall }

/-- 'groovelaw46.DistanceGraphs', WHERE WHAT IT READS IS OF BULK AT MOST 1048576: true; the input reads as it did. -/
def distanceGraphsUptoRow : OpenClaim := { program := "ytccnafddjjamoaa", sum := "dc7194a61b7ded621ac7537c7720436b36fa85ec958e28442d46f804df631797", func := "groove/groovelaw46.DistanceGraphs", spec := "distanceGraphs", inPlace := ["internal/bytealg.IndexByteString"], unfollowed := true, recurses := true, apart := false, narrowed := true }
def DistanceGraphsUptoSaid : Prop := distanceGraphsUptoRow.holds Try.pinned (OpenSpec.upto distanceGraphsSpec)

/-- 'groovelaw46.DistanceMetric', WHERE WHAT IT READS IS OF BULK AT MOST 1048576: true; the input reads as it did. -/
def distanceMetricUptoRow : OpenClaim := { program := "ytccnafddjjamoaa", sum := "dc7194a61b7ded621ac7537c7720436b36fa85ec958e28442d46f804df631797", func := "groove/groovelaw46.DistanceMetric", spec := "distanceMetric", inPlace := ["internal/bytealg.IndexByteString"], unfollowed := true, recurses := true, apart := false, narrowed := true }
def DistanceMetricUptoSaid : Prop := distanceMetricUptoRow.holds Try.pinned (OpenSpec.upto distanceMetricSpec)

/-- 'groovelaw46.DistanceParts', WHERE WHAT IT READS IS OF BULK AT MOST 1048576: true; the input reads as it did. -/
def distancePartsUptoRow : OpenClaim := { program := "ytccnafddjjamoaa", sum := "dc7194a61b7ded621ac7537c7720436b36fa85ec958e28442d46f804df631797", func := "groove/groovelaw46.DistanceParts", spec := "distanceParts", inPlace := ["internal/bytealg.IndexByteString"], unfollowed := true, recurses := true, apart := false, narrowed := true }
def DistancePartsUptoSaid : Prop := distancePartsUptoRow.holds Try.pinned (OpenSpec.upto distancePartsSpec)

/-- 'groovelaw46.DistanceLists', WHERE WHAT IT READS IS OF BULK AT MOST 1048576: true; the input reads as it did. -/
def distanceListsUptoRow : OpenClaim := { program := "ytccnafddjjamoaa", sum := "dc7194a61b7ded621ac7537c7720436b36fa85ec958e28442d46f804df631797", func := "groove/groovelaw46.DistanceLists", spec := "distanceLists", inPlace := ["internal/bytealg.IndexByteString"], unfollowed := true, recurses := true, apart := false, narrowed := true }
def DistanceListsUptoSaid : Prop := distanceListsUptoRow.holds Try.pinned (OpenSpec.upto distanceListsSpec)

/-- 'groovelaw46.DistanceGreedy', WHERE WHAT IT READS IS OF BULK AT MOST 1048576: true; the input reads as it did. -/
def distanceGreedyUptoRow : OpenClaim := { program := "ytccnafddjjamoaa", sum := "dc7194a61b7ded621ac7537c7720436b36fa85ec958e28442d46f804df631797", func := "groove/groovelaw46.DistanceGreedy", spec := "distanceGreedy", inPlace := ["internal/bytealg.IndexByteString"], unfollowed := true, recurses := true, apart := false, narrowed := true }
def DistanceGreedyUptoSaid : Prop := distanceGreedyUptoRow.holds Try.pinned (OpenSpec.upto distanceGreedySpec)

/-- 'groovelaw11.LanguageParts', WHERE WHAT IT READS IS OF BULK AT MOST 1048576: true; the input reads as it did. -/
def languagePartsUptoRow : OpenClaim := { program := "ytccnafddjjamoaa", sum := "dc7194a61b7ded621ac7537c7720436b36fa85ec958e28442d46f804df631797", func := "groove/groovelaw11.LanguageParts", spec := "languageParts", inPlace := ["internal/bytealg.IndexByteString"], unfollowed := true, recurses := true, apart := false, narrowed := true }
def LanguagePartsUptoSaid : Prop := languagePartsUptoRow.holds Try.pinned (OpenSpec.upto languagePartsSpec)

/-- 'groovelaw11.LanguageFactors', WHERE WHAT IT READS IS OF BULK AT MOST 1048576: true; the input reads as it did. -/
def languageFactorsUptoRow : OpenClaim := { program := "ytccnafddjjamoaa", sum := "dc7194a61b7ded621ac7537c7720436b36fa85ec958e28442d46f804df631797", func := "groove/groovelaw11.LanguageFactors", spec := "languageFactors", inPlace := ["internal/bytealg.IndexByteString"], unfollowed := true, recurses := true, apart := false, narrowed := true }
def LanguageFactorsUptoSaid : Prop := languageFactorsUptoRow.holds Try.pinned (OpenSpec.upto languageFactorsSpec)

/-- 'groovelaw11.LanguagePaths', WHERE WHAT IT READS IS OF BULK AT MOST 1048576: true; the input reads as it did. -/
def languagePathsUptoRow : OpenClaim := { program := "ytccnafddjjamoaa", sum := "dc7194a61b7ded621ac7537c7720436b36fa85ec958e28442d46f804df631797", func := "groove/groovelaw11.LanguagePaths", spec := "languagePaths", inPlace := ["internal/bytealg.IndexByteString"], unfollowed := true, recurses := true, apart := false, narrowed := true }
def LanguagePathsUptoSaid : Prop := languagePathsUptoRow.holds Try.pinned (OpenSpec.upto languagePathsSpec)

/-- 'groovelaw11.LanguageLetters', WHERE WHAT IT READS IS OF BULK AT MOST 1048576: true; the input reads as it did. -/
def languageLettersUptoRow : OpenClaim := { program := "ytccnafddjjamoaa", sum := "dc7194a61b7ded621ac7537c7720436b36fa85ec958e28442d46f804df631797", func := "groove/groovelaw11.LanguageLetters", spec := "languageLetters", inPlace := ["internal/bytealg.IndexByteString", "internal/abi.NoEscape"], unfollowed := true, recurses := true, apart := false, narrowed := true }
def LanguageLettersUptoSaid : Prop := languageLettersUptoRow.holds Try.pinned (OpenSpec.upto languageLettersSpec)

/-- 'groovetop.TopTenengolts', WHERE WHAT IT READS IS OF BULK AT MOST 1048576: true; the input reads as it did. -/
def topTenengoltsUptoRow : OpenClaim := { program := "ytccnafddjjamoaa", sum := "dc7194a61b7ded621ac7537c7720436b36fa85ec958e28442d46f804df631797", func := "groove/groovetop.TopTenengolts", spec := "topTenengolts", inPlace := ["internal/abi.NoEscape", "internal/bytealg.MakeNoZero", "internal/bytealg.IndexByteString"], unfollowed := true, recurses := true, apart := false, narrowed := true }
def TopTenengoltsUptoSaid : Prop := topTenengoltsUptoRow.holds Try.pinned (OpenSpec.upto topTenengoltsSpec)

/-- 'groovelaw46.DistanceFree', WHERE WHAT IT READS IS OF BULK AT MOST 1048576: true; the input reads as it did. -/
def distanceFreeUptoRow : OpenClaim := { program := "ytccnafddjjamoaa", sum := "dc7194a61b7ded621ac7537c7720436b36fa85ec958e28442d46f804df631797", func := "groove/groovelaw46.DistanceFree", spec := "distanceFree", inPlace := ["internal/bytealg.IndexByteString"], unfollowed := true, recurses := true, apart := false, narrowed := true }
def DistanceFreeUptoSaid : Prop := distanceFreeUptoRow.holds Try.pinned (OpenSpec.upto distanceFreeSpec)

end Rows
end Go.Proofs.Ytccnafddjjamoaa
