/-
  No cell of these rows narrows 'for every input' (looked for: loops, veiled, ifaces, maps, wideKeys, modest, calm, conditions, laid).
  DERIVED. THE GIVEN ROWS OF THIS SEAT. 9 by the template 'for every input the law returns true; each argument reads behind the call as it read before'; 0 by the template 'total and deterministic' (their statements: YtlddcjolelmpmaaGreatTotals.lean).
  GIVEN WITH THE SEED: the statements are not yours to turn. If you find one false, say at which input.
  Laid BY PROGRAM, IN A SANDBOX (cutbox-rows.mjs): the forced cells as the released guide's own fill.sh prints them over the translation 2d9c4bf1c05e3cd2… (all of the seat's roots in one cut). By AI agents, Wed Nov 11 2026. No macro, syntax, notation, axiom, sorry.
-/
import Derived.Test.YtlddcjolelmpmaaGreatChecked
import GoSem.Claim
import GoSem.ClaimJoined
import GoSem.ClaimMapViews
import Derived.JoinedTies
import Derived.KernelRfl
namespace Go.Proofs.YtlddcjolelmpmaaGreat
/- THE CELL 'sum', in the pinned program and in every row, IS THE sha256 OF THE DUMP (.gsa) THAT YtlddcjolelmpmaaGreatProg.lean LOADS. Nothing in Lean hashes anything: it is a label: what it is worth is what the hold of that sum in a sandbox is worth. -/
noncomputable def Tryz.pinned : Pinned := { name := "ytlddcjolelmpmaagreat", sum := "2d9c4bf1c05e3cd285ab3a571c04ce3575075141d7102ad8077215d2df80b7ae", checked := Tryz.checked }
namespace Rows
def none {H : Type} : Left H := { results := [], args := [] }

/-- 'groovelaw31.MergingBalanced': WHATEVER THE INPUT: true; the input reads as it did. -/
def mergingBalancedSpec : ChangeSpec := { name := "mergingBalanced", fn := fun _ => fun
  | [d1, d2, d3] => { results := [.lit (.bool true)], args := [d1, d2, d3] }
  | _ => none }
def mergingBalancedRow : OpenClaim := { program := "ytlddcjolelmpmaagreat", sum := "2d9c4bf1c05e3cd285ab3a571c04ce3575075141d7102ad8077215d2df80b7ae", func := "groove/groovelaw31.MergingBalanced", spec := "mergingBalanced", inPlace := ["internal/bytealg.CountString", "internal/bytealg.IndexByteString", "internal/bytealg.IndexString", "internal/abi.NoEscape"], unfollowed := true, recurses := true, named := ["internal/bytealg.MaxLen"], apart := false }
def MergingBalancedSaid : Prop := mergingBalancedRow.holds Tryz.pinned (OpenSpec.ofChange mergingBalancedSpec)

/-- ITS FALSE NEIGHBOUR: 'it returns false'. Refute it at one input. -/
def mergingBalancedWrong : ChangeSpec := { name := "mergingBalanced", fn := fun _ => fun
  | [d1, d2, d3] => { results := [.lit (.bool false)], args := [d1, d2, d3] }
  | _ => none }
def MergingBalancedWrongFalsely : Prop := mergingBalancedRow.holds Tryz.pinned (OpenSpec.ofChange mergingBalancedWrong)

/-- 'groovelaw31.MergingRates': WHATEVER THE INPUT: true; the input reads as it did. -/
def mergingRatesSpec : ChangeSpec := { name := "mergingRates", fn := fun _ => fun
  | [d] => { results := [.lit (.bool true)], args := [d] }
  | _ => none }
def mergingRatesRow : OpenClaim := { program := "ytlddcjolelmpmaagreat", sum := "2d9c4bf1c05e3cd285ab3a571c04ce3575075141d7102ad8077215d2df80b7ae", func := "groove/groovelaw31.MergingRates", spec := "mergingRates", inPlace := ["internal/bytealg.CountString", "internal/bytealg.IndexByteString", "internal/bytealg.IndexString", "internal/abi.NoEscape"], unfollowed := true, recurses := true, named := ["internal/bytealg.MaxLen"], apart := false }
def MergingRatesSaid : Prop := mergingRatesRow.holds Tryz.pinned (OpenSpec.ofChange mergingRatesSpec)

/-- ITS FALSE NEIGHBOUR: 'it returns false'. Refute it at one input. -/
def mergingRatesWrong : ChangeSpec := { name := "mergingRates", fn := fun _ => fun
  | [d] => { results := [.lit (.bool false)], args := [d] }
  | _ => none }
def MergingRatesWrongFalsely : Prop := mergingRatesRow.holds Tryz.pinned (OpenSpec.ofChange mergingRatesWrong)

/-- 'groovelaw31.MergingAllowed': WHATEVER THE INPUT: true; the input reads as it did. -/
def mergingAllowedSpec : ChangeSpec := { name := "mergingAllowed", fn := fun _ => fun
  | [d1, d2, d3, d4] => { results := [.lit (.bool true)], args := [d1, d2, d3, d4] }
  | _ => none }
def mergingAllowedRow : OpenClaim := { program := "ytlddcjolelmpmaagreat", sum := "2d9c4bf1c05e3cd285ab3a571c04ce3575075141d7102ad8077215d2df80b7ae", func := "groove/groovelaw31.MergingAllowed", spec := "mergingAllowed", inPlace := ["internal/bytealg.CountString", "internal/bytealg.IndexByteString", "internal/bytealg.IndexString", "internal/abi.NoEscape"], unfollowed := true, recurses := true, named := ["internal/bytealg.MaxLen"], apart := false }
def MergingAllowedSaid : Prop := mergingAllowedRow.holds Tryz.pinned (OpenSpec.ofChange mergingAllowedSpec)

/-- ITS FALSE NEIGHBOUR: 'it returns false'. Refute it at one input. -/
def mergingAllowedWrong : ChangeSpec := { name := "mergingAllowed", fn := fun _ => fun
  | [d1, d2, d3, d4] => { results := [.lit (.bool false)], args := [d1, d2, d3, d4] }
  | _ => none }
def MergingAllowedWrongFalsely : Prop := mergingAllowedRow.holds Tryz.pinned (OpenSpec.ofChange mergingAllowedWrong)

/-- 'groovelaw31.MergingChecks': WHATEVER THE INPUT: true; the input reads as it did. -/
def mergingChecksSpec : ChangeSpec := { name := "mergingChecks", fn := fun _ => fun
  | [d1, d2, d3, d4, d5] => { results := [.lit (.bool true)], args := [d1, d2, d3, d4, d5] }
  | _ => none }
def mergingChecksRow : OpenClaim := { program := "ytlddcjolelmpmaagreat", sum := "2d9c4bf1c05e3cd285ab3a571c04ce3575075141d7102ad8077215d2df80b7ae", func := "groove/groovelaw31.MergingChecks", spec := "mergingChecks", inPlace := ["internal/bytealg.CountString", "internal/bytealg.IndexByteString", "internal/bytealg.IndexString", "internal/abi.NoEscape"], unfollowed := true, recurses := true, named := ["internal/bytealg.MaxLen"], apart := false }
def MergingChecksSaid : Prop := mergingChecksRow.holds Tryz.pinned (OpenSpec.ofChange mergingChecksSpec)

/-- ITS FALSE NEIGHBOUR: 'it returns false'. Refute it at one input. -/
def mergingChecksWrong : ChangeSpec := { name := "mergingChecks", fn := fun _ => fun
  | [d1, d2, d3, d4, d5] => { results := [.lit (.bool false)], args := [d1, d2, d3, d4, d5] }
  | _ => none }
def MergingChecksWrongFalsely : Prop := mergingChecksRow.holds Tryz.pinned (OpenSpec.ofChange mergingChecksWrong)

/-- 'groovelaw31.MergingRead': WHATEVER THE INPUT: true; the input reads as it did. -/
def mergingReadSpec : ChangeSpec := { name := "mergingRead", fn := fun _ => fun
  | [d1, d2, d3] => { results := [.lit (.bool true)], args := [d1, d2, d3] }
  | _ => none }
def mergingReadRow : OpenClaim := { program := "ytlddcjolelmpmaagreat", sum := "2d9c4bf1c05e3cd285ab3a571c04ce3575075141d7102ad8077215d2df80b7ae", func := "groove/groovelaw31.MergingRead", spec := "mergingRead", inPlace := ["internal/bytealg.CountString", "internal/bytealg.IndexByteString", "internal/bytealg.IndexString", "internal/abi.NoEscape"], unfollowed := true, recurses := true, named := ["internal/bytealg.MaxLen"], apart := false }
def MergingReadSaid : Prop := mergingReadRow.holds Tryz.pinned (OpenSpec.ofChange mergingReadSpec)

/-- ITS FALSE NEIGHBOUR: 'it returns false'. Refute it at one input. -/
def mergingReadWrong : ChangeSpec := { name := "mergingRead", fn := fun _ => fun
  | [d1, d2, d3] => { results := [.lit (.bool false)], args := [d1, d2, d3] }
  | _ => none }
def MergingReadWrongFalsely : Prop := mergingReadRow.holds Tryz.pinned (OpenSpec.ofChange mergingReadWrong)

/-- 'groovelaw31.MergingWrites': WHATEVER THE INPUT: true; the input reads as it did. -/
def mergingWritesSpec : ChangeSpec := { name := "mergingWrites", fn := fun _ => fun
  | [d1, d2, d3] => { results := [.lit (.bool true)], args := [d1, d2, d3] }
  | _ => none }
def mergingWritesRow : OpenClaim := { program := "ytlddcjolelmpmaagreat", sum := "2d9c4bf1c05e3cd285ab3a571c04ce3575075141d7102ad8077215d2df80b7ae", func := "groove/groovelaw31.MergingWrites", spec := "mergingWrites", inPlace := ["internal/bytealg.CountString", "internal/bytealg.IndexByteString", "internal/bytealg.IndexString", "internal/abi.NoEscape"], unfollowed := true, recurses := true, named := ["internal/bytealg.MaxLen"], apart := false }
def MergingWritesSaid : Prop := mergingWritesRow.holds Tryz.pinned (OpenSpec.ofChange mergingWritesSpec)

/-- ITS FALSE NEIGHBOUR: 'it returns false'. Refute it at one input. -/
def mergingWritesWrong : ChangeSpec := { name := "mergingWrites", fn := fun _ => fun
  | [d1, d2, d3] => { results := [.lit (.bool false)], args := [d1, d2, d3] }
  | _ => none }
def MergingWritesWrongFalsely : Prop := mergingWritesRow.holds Tryz.pinned (OpenSpec.ofChange mergingWritesWrong)

/-- 'groovelaw31.MergingCharges': WHATEVER THE INPUT: true; the input reads as it did. -/
def mergingChargesSpec : ChangeSpec := { name := "mergingCharges", fn := fun _ => fun
  | [d1, d2, d3] => { results := [.lit (.bool true)], args := [d1, d2, d3] }
  | _ => none }
def mergingChargesRow : OpenClaim := { program := "ytlddcjolelmpmaagreat", sum := "2d9c4bf1c05e3cd285ab3a571c04ce3575075141d7102ad8077215d2df80b7ae", func := "groove/groovelaw31.MergingCharges", spec := "mergingCharges", inPlace := ["internal/bytealg.CountString", "internal/bytealg.IndexByteString", "internal/bytealg.IndexString", "internal/abi.NoEscape"], unfollowed := true, recurses := true, named := ["internal/bytealg.MaxLen"], apart := false }
def MergingChargesSaid : Prop := mergingChargesRow.holds Tryz.pinned (OpenSpec.ofChange mergingChargesSpec)

/-- ITS FALSE NEIGHBOUR: 'it returns false'. Refute it at one input. -/
def mergingChargesWrong : ChangeSpec := { name := "mergingCharges", fn := fun _ => fun
  | [d1, d2, d3] => { results := [.lit (.bool false)], args := [d1, d2, d3] }
  | _ => none }
def MergingChargesWrongFalsely : Prop := mergingChargesRow.holds Tryz.pinned (OpenSpec.ofChange mergingChargesWrong)

/-- 'groovelaw31.MergingBuilds': WHATEVER THE INPUT: true; the input reads as it did. -/
def mergingBuildsSpec : ChangeSpec := { name := "mergingBuilds", fn := fun _ => fun
  | [d1, d2, d3, d4] => { results := [.lit (.bool true)], args := [d1, d2, d3, d4] }
  | _ => none }
def mergingBuildsRow : OpenClaim := { program := "ytlddcjolelmpmaagreat", sum := "2d9c4bf1c05e3cd285ab3a571c04ce3575075141d7102ad8077215d2df80b7ae", func := "groove/groovelaw31.MergingBuilds", spec := "mergingBuilds", inPlace := ["internal/bytealg.CountString", "internal/bytealg.IndexByteString", "internal/bytealg.IndexString", "internal/abi.NoEscape", "internal/bytealg.MakeNoZero"], unfollowed := true, recurses := true, named := ["internal/bytealg.MaxLen"], apart := false }
def MergingBuildsSaid : Prop := mergingBuildsRow.holds Tryz.pinned (OpenSpec.ofChange mergingBuildsSpec)

/-- ITS FALSE NEIGHBOUR: 'it returns false'. Refute it at one input. -/
def mergingBuildsWrong : ChangeSpec := { name := "mergingBuilds", fn := fun _ => fun
  | [d1, d2, d3, d4] => { results := [.lit (.bool false)], args := [d1, d2, d3, d4] }
  | _ => none }
def MergingBuildsWrongFalsely : Prop := mergingBuildsRow.holds Tryz.pinned (OpenSpec.ofChange mergingBuildsWrong)

/-- 'groovelaw31.MergingBuilt': WHATEVER THE INPUT: true; the input reads as it did. -/
def mergingBuiltSpec : ChangeSpec := { name := "mergingBuilt", fn := fun _ => fun
  | [d1, d2, d3, d4] => { results := [.lit (.bool true)], args := [d1, d2, d3, d4] }
  | _ => none }
def mergingBuiltRow : OpenClaim := { program := "ytlddcjolelmpmaagreat", sum := "2d9c4bf1c05e3cd285ab3a571c04ce3575075141d7102ad8077215d2df80b7ae", func := "groove/groovelaw31.MergingBuilt", spec := "mergingBuilt", inPlace := ["internal/bytealg.CountString", "internal/bytealg.IndexByteString", "internal/bytealg.IndexString", "internal/abi.NoEscape", "internal/bytealg.MakeNoZero"], unfollowed := true, recurses := true, named := ["internal/bytealg.MaxLen"], apart := false }
def MergingBuiltSaid : Prop := mergingBuiltRow.holds Tryz.pinned (OpenSpec.ofChange mergingBuiltSpec)

/-- ITS FALSE NEIGHBOUR: 'it returns false'. Refute it at one input. -/
def mergingBuiltWrong : ChangeSpec := { name := "mergingBuilt", fn := fun _ => fun
  | [d1, d2, d3, d4] => { results := [.lit (.bool false)], args := [d1, d2, d3, d4] }
  | _ => none }
def MergingBuiltWrongFalsely : Prop := mergingBuiltRow.holds Tryz.pinned (OpenSpec.ofChange mergingBuiltWrong)

/- THE SECOND FORM. 'bulk': how many values and letters a reading holds, each counted each time it is reached (what is shared counts as often as it is met; a slice's spare places count too). A statement '..UptoSaid' is the law's where the arguments, and the package variables that the reading takes, are together of bulk at most 1048576: NARROWER than '..Said'. Prove '..Said' where nothing that the law and all that it calls make is longer than what came in: it says more and counts as full. Else prove '..UptoSaid'. A law counts once. -/
mutual
def uptoBulk {H : Type} : DataW H → Nat
  | .lit (.string bytes) => bytes.length + 1
  | .lit _ => 1
  | .nil => 1
  | .ptr d => uptoBulk d + 1
  | .slice elems spare => uptoBulkAll elems + uptoBulkAll spare + 1
  | .agg parts => uptoBulkAll parts + 1
  | .iface _ d => uptoBulk d + 1
  | .map entries => uptoBulkEntries entries + 1
  | .held _ => 1
def uptoBulkAll {H : Type} : List (DataW H) → Nat
  | [] => 0
  | d :: r => uptoBulk d + uptoBulkAll r
def uptoBulkEntries {H : Type} : List (Lit × DataW H) → Nat
  | [] => 0
  | x :: r => uptoBulkEntry x + uptoBulkEntries r
def uptoBulkEntry {H : Type} : Lit × DataW H → Nat
  | (.string bytes, d) => bytes.length + uptoBulk d + 1
  | (_, d) => uptoBulk d + 1
 end
def uptoSmall : (H : Type) → List (DataW H) → Bool := fun _ ds => decide (uptoBulkAll ds ≤ 1048576)
def OpenSpec.upto (s : _root_.Go.ChangeSpec) : _root_.Go.OpenSpec := { _root_.Go.OpenSpec.ofChange s with cond := some uptoSmall }

/-- 'groovelaw31.MergingBalanced', WHERE WHAT IT READS IS OF BULK AT MOST 1048576: true; the input reads as it did. -/
def mergingBalancedUptoRow : OpenClaim := { program := "ytlddcjolelmpmaagreat", sum := "2d9c4bf1c05e3cd285ab3a571c04ce3575075141d7102ad8077215d2df80b7ae", func := "groove/groovelaw31.MergingBalanced", spec := "mergingBalanced", inPlace := ["internal/bytealg.CountString", "internal/bytealg.IndexByteString", "internal/bytealg.IndexString", "internal/abi.NoEscape"], unfollowed := true, recurses := true, named := ["internal/bytealg.MaxLen"], apart := false, narrowed := true }
def MergingBalancedUptoSaid : Prop := mergingBalancedUptoRow.holds Tryz.pinned (OpenSpec.upto mergingBalancedSpec)

/-- 'groovelaw31.MergingRates', WHERE WHAT IT READS IS OF BULK AT MOST 1048576: true; the input reads as it did. -/
def mergingRatesUptoRow : OpenClaim := { program := "ytlddcjolelmpmaagreat", sum := "2d9c4bf1c05e3cd285ab3a571c04ce3575075141d7102ad8077215d2df80b7ae", func := "groove/groovelaw31.MergingRates", spec := "mergingRates", inPlace := ["internal/bytealg.CountString", "internal/bytealg.IndexByteString", "internal/bytealg.IndexString", "internal/abi.NoEscape"], unfollowed := true, recurses := true, named := ["internal/bytealg.MaxLen"], apart := false, narrowed := true }
def MergingRatesUptoSaid : Prop := mergingRatesUptoRow.holds Tryz.pinned (OpenSpec.upto mergingRatesSpec)

/-- 'groovelaw31.MergingAllowed', WHERE WHAT IT READS IS OF BULK AT MOST 1048576: true; the input reads as it did. -/
def mergingAllowedUptoRow : OpenClaim := { program := "ytlddcjolelmpmaagreat", sum := "2d9c4bf1c05e3cd285ab3a571c04ce3575075141d7102ad8077215d2df80b7ae", func := "groove/groovelaw31.MergingAllowed", spec := "mergingAllowed", inPlace := ["internal/bytealg.CountString", "internal/bytealg.IndexByteString", "internal/bytealg.IndexString", "internal/abi.NoEscape"], unfollowed := true, recurses := true, named := ["internal/bytealg.MaxLen"], apart := false, narrowed := true }
def MergingAllowedUptoSaid : Prop := mergingAllowedUptoRow.holds Tryz.pinned (OpenSpec.upto mergingAllowedSpec)

/-- 'groovelaw31.MergingChecks', WHERE WHAT IT READS IS OF BULK AT MOST 1048576: true; the input reads as it did. -/
def mergingChecksUptoRow : OpenClaim := { program := "ytlddcjolelmpmaagreat", sum := "2d9c4bf1c05e3cd285ab3a571c04ce3575075141d7102ad8077215d2df80b7ae", func := "groove/groovelaw31.MergingChecks", spec := "mergingChecks", inPlace := ["internal/bytealg.CountString", "internal/bytealg.IndexByteString", "internal/bytealg.IndexString", "internal/abi.NoEscape"], unfollowed := true, recurses := true, named := ["internal/bytealg.MaxLen"], apart := false, narrowed := true }
def MergingChecksUptoSaid : Prop := mergingChecksUptoRow.holds Tryz.pinned (OpenSpec.upto mergingChecksSpec)

/-- 'groovelaw31.MergingRead', WHERE WHAT IT READS IS OF BULK AT MOST 1048576: true; the input reads as it did. -/
def mergingReadUptoRow : OpenClaim := { program := "ytlddcjolelmpmaagreat", sum := "2d9c4bf1c05e3cd285ab3a571c04ce3575075141d7102ad8077215d2df80b7ae", func := "groove/groovelaw31.MergingRead", spec := "mergingRead", inPlace := ["internal/bytealg.CountString", "internal/bytealg.IndexByteString", "internal/bytealg.IndexString", "internal/abi.NoEscape"], unfollowed := true, recurses := true, named := ["internal/bytealg.MaxLen"], apart := false, narrowed := true }
def MergingReadUptoSaid : Prop := mergingReadUptoRow.holds Tryz.pinned (OpenSpec.upto mergingReadSpec)

/-- 'groovelaw31.MergingWrites', WHERE WHAT IT READS IS OF BULK AT MOST 1048576: true; the input reads as it did. -/
def mergingWritesUptoRow : OpenClaim := { program := "ytlddcjolelmpmaagreat", sum := "2d9c4bf1c05e3cd285ab3a571c04ce3575075141d7102ad8077215d2df80b7ae", func := "groove/groovelaw31.MergingWrites", spec := "mergingWrites", inPlace := ["internal/bytealg.CountString", "internal/bytealg.IndexByteString", "internal/bytealg.IndexString", "internal/abi.NoEscape"], unfollowed := true, recurses := true, named := ["internal/bytealg.MaxLen"], apart := false, narrowed := true }
def MergingWritesUptoSaid : Prop := mergingWritesUptoRow.holds Tryz.pinned (OpenSpec.upto mergingWritesSpec)

/-- 'groovelaw31.MergingCharges', WHERE WHAT IT READS IS OF BULK AT MOST 1048576: true; the input reads as it did. -/
def mergingChargesUptoRow : OpenClaim := { program := "ytlddcjolelmpmaagreat", sum := "2d9c4bf1c05e3cd285ab3a571c04ce3575075141d7102ad8077215d2df80b7ae", func := "groove/groovelaw31.MergingCharges", spec := "mergingCharges", inPlace := ["internal/bytealg.CountString", "internal/bytealg.IndexByteString", "internal/bytealg.IndexString", "internal/abi.NoEscape"], unfollowed := true, recurses := true, named := ["internal/bytealg.MaxLen"], apart := false, narrowed := true }
def MergingChargesUptoSaid : Prop := mergingChargesUptoRow.holds Tryz.pinned (OpenSpec.upto mergingChargesSpec)

/-- 'groovelaw31.MergingBuilds', WHERE WHAT IT READS IS OF BULK AT MOST 1048576: true; the input reads as it did. -/
def mergingBuildsUptoRow : OpenClaim := { program := "ytlddcjolelmpmaagreat", sum := "2d9c4bf1c05e3cd285ab3a571c04ce3575075141d7102ad8077215d2df80b7ae", func := "groove/groovelaw31.MergingBuilds", spec := "mergingBuilds", inPlace := ["internal/bytealg.CountString", "internal/bytealg.IndexByteString", "internal/bytealg.IndexString", "internal/abi.NoEscape", "internal/bytealg.MakeNoZero"], unfollowed := true, recurses := true, named := ["internal/bytealg.MaxLen"], apart := false, narrowed := true }
def MergingBuildsUptoSaid : Prop := mergingBuildsUptoRow.holds Tryz.pinned (OpenSpec.upto mergingBuildsSpec)

/-- 'groovelaw31.MergingBuilt', WHERE WHAT IT READS IS OF BULK AT MOST 1048576: true; the input reads as it did. -/
def mergingBuiltUptoRow : OpenClaim := { program := "ytlddcjolelmpmaagreat", sum := "2d9c4bf1c05e3cd285ab3a571c04ce3575075141d7102ad8077215d2df80b7ae", func := "groove/groovelaw31.MergingBuilt", spec := "mergingBuilt", inPlace := ["internal/bytealg.CountString", "internal/bytealg.IndexByteString", "internal/bytealg.IndexString", "internal/abi.NoEscape", "internal/bytealg.MakeNoZero"], unfollowed := true, recurses := true, named := ["internal/bytealg.MaxLen"], apart := false, narrowed := true }
def MergingBuiltUptoSaid : Prop := mergingBuiltUptoRow.holds Tryz.pinned (OpenSpec.upto mergingBuiltSpec)

end Rows
end Go.Proofs.YtlddcjolelmpmaaGreat
