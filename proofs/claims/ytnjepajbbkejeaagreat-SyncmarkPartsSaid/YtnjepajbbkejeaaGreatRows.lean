/-
  No cell of these rows narrows 'for every input' (looked for: loops, veiled, ifaces, maps, wideKeys, modest, calm, conditions, laid).
  DERIVED. THE GIVEN ROWS OF THIS SEAT. 5 by the template 'for every input the law returns true; each argument reads behind the call as it read before'; 0 by the template 'total and deterministic' (their statements: YtnjepajbbkejeaaGreatTotals.lean).
  GIVEN WITH THE SEED: the statements are not yours to turn. If you find one false, say at which input.
  Laid BY PROGRAM, IN A SANDBOX (cutbox-rows.mjs): the forced cells as the released guide's own fill.sh prints them over the translation bd241215f2c02b9e… (all of the seat's roots in one cut). By AI agents, Wed Nov 11 2026. No macro, syntax, notation, axiom, sorry.
-/
import Derived.Test.YtnjepajbbkejeaaGreatChecked
import GoSem.Claim
import GoSem.ClaimJoined
import GoSem.ClaimMapViews
import Derived.JoinedTies
import Derived.KernelRfl
namespace Go.Proofs.YtnjepajbbkejeaaGreat
/- THE CELL 'sum', in the pinned program and in every row, IS THE sha256 OF THE DUMP (.gsa) THAT YtnjepajbbkejeaaGreatProg.lean LOADS. Nothing in Lean hashes anything: it is a label: what it is worth is what the hold of that sum in a sandbox is worth. -/
noncomputable def Tryz.pinned : Pinned := { name := "ytnjepajbbkejeaagreat", sum := "bd241215f2c02b9e61f43d0dfad755eab8557516fb8eb4c7f581938c6fc4f9f7", checked := Tryz.checked }
namespace Rows
def none {H : Type} : Left H := { results := [], args := [] }

/-- 'groovelaw54.SyncmarkBad': WHATEVER THE INPUT: true; the input reads as it did. -/
def syncmarkBadSpec : ChangeSpec := { name := "syncmarkBad", fn := fun _ => fun
  | [d1, d2, d3] => { results := [.lit (.bool true)], args := [d1, d2, d3] }
  | _ => none }
def syncmarkBadRow : OpenClaim := { program := "ytnjepajbbkejeaagreat", sum := "bd241215f2c02b9e61f43d0dfad755eab8557516fb8eb4c7f581938c6fc4f9f7", func := "groove/groovelaw54.SyncmarkBad", spec := "syncmarkBad", inPlace := ["internal/bytealg.IndexByteString", "internal/abi.NoEscape", "internal/bytealg.IndexString"], unfollowed := true, recurses := true, named := ["internal/bytealg.MaxLen"], plainKeys := false, apart := false }
def SyncmarkBadSaid : Prop := syncmarkBadRow.holds Tryz.pinned (OpenSpec.ofChange syncmarkBadSpec)

/-- ITS FALSE NEIGHBOUR: 'it returns false'. Refute it at one input. -/
def syncmarkBadWrong : ChangeSpec := { name := "syncmarkBad", fn := fun _ => fun
  | [d1, d2, d3] => { results := [.lit (.bool false)], args := [d1, d2, d3] }
  | _ => none }
def SyncmarkBadWrongFalsely : Prop := syncmarkBadRow.holds Tryz.pinned (OpenSpec.ofChange syncmarkBadWrong)

/-- 'groovelaw54.SyncmarkValid': WHATEVER THE INPUT: true; the input reads as it did. -/
def syncmarkValidSpec : ChangeSpec := { name := "syncmarkValid", fn := fun _ => fun
  | [d1, d2, d3] => { results := [.lit (.bool true)], args := [d1, d2, d3] }
  | _ => none }
def syncmarkValidRow : OpenClaim := { program := "ytnjepajbbkejeaagreat", sum := "bd241215f2c02b9e61f43d0dfad755eab8557516fb8eb4c7f581938c6fc4f9f7", func := "groove/groovelaw54.SyncmarkValid", spec := "syncmarkValid", inPlace := ["internal/bytealg.IndexByteString", "internal/abi.NoEscape", "internal/bytealg.IndexString"], unfollowed := true, recurses := true, named := ["internal/bytealg.MaxLen"], plainKeys := false, apart := false }
def SyncmarkValidSaid : Prop := syncmarkValidRow.holds Tryz.pinned (OpenSpec.ofChange syncmarkValidSpec)

/-- ITS FALSE NEIGHBOUR: 'it returns false'. Refute it at one input. -/
def syncmarkValidWrong : ChangeSpec := { name := "syncmarkValid", fn := fun _ => fun
  | [d1, d2, d3] => { results := [.lit (.bool false)], args := [d1, d2, d3] }
  | _ => none }
def SyncmarkValidWrongFalsely : Prop := syncmarkValidRow.holds Tryz.pinned (OpenSpec.ofChange syncmarkValidWrong)

/-- 'groovelaw54.SyncmarkDamaged': WHATEVER THE INPUT: true; the input reads as it did. -/
def syncmarkDamagedSpec : ChangeSpec := { name := "syncmarkDamaged", fn := fun _ => fun
  | [d1, d2, d3] => { results := [.lit (.bool true)], args := [d1, d2, d3] }
  | _ => none }
def syncmarkDamagedRow : OpenClaim := { program := "ytnjepajbbkejeaagreat", sum := "bd241215f2c02b9e61f43d0dfad755eab8557516fb8eb4c7f581938c6fc4f9f7", func := "groove/groovelaw54.SyncmarkDamaged", spec := "syncmarkDamaged", inPlace := ["internal/bytealg.IndexByteString", "internal/abi.NoEscape", "internal/bytealg.IndexString"], unfollowed := true, recurses := true, named := ["internal/bytealg.MaxLen"], plainKeys := false, apart := false }
def SyncmarkDamagedSaid : Prop := syncmarkDamagedRow.holds Tryz.pinned (OpenSpec.ofChange syncmarkDamagedSpec)

/-- ITS FALSE NEIGHBOUR: 'it returns false'. Refute it at one input. -/
def syncmarkDamagedWrong : ChangeSpec := { name := "syncmarkDamaged", fn := fun _ => fun
  | [d1, d2, d3] => { results := [.lit (.bool false)], args := [d1, d2, d3] }
  | _ => none }
def SyncmarkDamagedWrongFalsely : Prop := syncmarkDamagedRow.holds Tryz.pinned (OpenSpec.ofChange syncmarkDamagedWrong)

/-- 'groovelaw54.SyncmarkParts': WHATEVER THE INPUT: true; the input reads as it did. -/
def syncmarkPartsSpec : ChangeSpec := { name := "syncmarkParts", fn := fun _ => fun
  | [d1, d2, d3, d4] => { results := [.lit (.bool true)], args := [d1, d2, d3, d4] }
  | _ => none }
def syncmarkPartsRow : OpenClaim := { program := "ytnjepajbbkejeaagreat", sum := "bd241215f2c02b9e61f43d0dfad755eab8557516fb8eb4c7f581938c6fc4f9f7", func := "groove/groovelaw54.SyncmarkParts", spec := "syncmarkParts", inPlace := ["internal/bytealg.IndexByteString", "internal/abi.NoEscape", "internal/bytealg.IndexString"], unfollowed := true, recurses := true, named := ["internal/bytealg.MaxLen"], plainKeys := false, apart := false }
def SyncmarkPartsSaid : Prop := syncmarkPartsRow.holds Tryz.pinned (OpenSpec.ofChange syncmarkPartsSpec)

/-- ITS FALSE NEIGHBOUR: 'it returns false'. Refute it at one input. -/
def syncmarkPartsWrong : ChangeSpec := { name := "syncmarkParts", fn := fun _ => fun
  | [d1, d2, d3, d4] => { results := [.lit (.bool false)], args := [d1, d2, d3, d4] }
  | _ => none }
def SyncmarkPartsWrongFalsely : Prop := syncmarkPartsRow.holds Tryz.pinned (OpenSpec.ofChange syncmarkPartsWrong)

/-- 'groovelaw54.SyncmarkSearches': WHATEVER THE INPUT: true; the input reads as it did. -/
def syncmarkSearchesSpec : ChangeSpec := { name := "syncmarkSearches", fn := fun _ => fun
  | [d1, d2, d3, d4, d5] => { results := [.lit (.bool true)], args := [d1, d2, d3, d4, d5] }
  | _ => none }
def syncmarkSearchesRow : OpenClaim := { program := "ytnjepajbbkejeaagreat", sum := "bd241215f2c02b9e61f43d0dfad755eab8557516fb8eb4c7f581938c6fc4f9f7", func := "groove/groovelaw54.SyncmarkSearches", spec := "syncmarkSearches", inPlace := ["internal/bytealg.IndexByteString", "internal/abi.NoEscape", "internal/bytealg.IndexString", "internal/bytealg.MakeNoZero"], unfollowed := true, recurses := true, named := ["internal/bytealg.MaxLen"], plainKeys := false, apart := false }
def SyncmarkSearchesSaid : Prop := syncmarkSearchesRow.holds Tryz.pinned (OpenSpec.ofChange syncmarkSearchesSpec)

/-- ITS FALSE NEIGHBOUR: 'it returns false'. Refute it at one input. -/
def syncmarkSearchesWrong : ChangeSpec := { name := "syncmarkSearches", fn := fun _ => fun
  | [d1, d2, d3, d4, d5] => { results := [.lit (.bool false)], args := [d1, d2, d3, d4, d5] }
  | _ => none }
def SyncmarkSearchesWrongFalsely : Prop := syncmarkSearchesRow.holds Tryz.pinned (OpenSpec.ofChange syncmarkSearchesWrong)

/- THE SECOND FORM. 'bulk': how many values and letters a reading holds, each counted each time it is reached (what is shared counts as often as it is met; a slice's spare places count too). A statement '..UptoSaid' is the law's where the arguments, and the package variables that the reading takes, are together of bulk at most 1048576: NARROWER than '..Said'. Prove '..Said' where nothing that the law and all that it calls make is longer than what came in: it says more and counts as full. Else prove '..UptoSaid'. A law counts once. -/
mutual
def uptoBulk {H : Type} : DataW H → Nat
  | .lit (.string bytes) => bytes.length + 1
  | .lit _ => 1
  | .nil => 1
  | .ptr d => uptoBulk d + 1
  | .slice elems spare => uptoBulkAll elems + uptoBulkAll spare + 1
  | .agg parts => uptoBulkAll parts + 1
  | .iface _ d => uptoBulk d + 1
  | .map entries => uptoBulkEntries entries + 1
  | .held _ => 1
def uptoBulkAll {H : Type} : List (DataW H) → Nat
  | [] => 0
  | d :: r => uptoBulk d + uptoBulkAll r
def uptoBulkEntries {H : Type} : List (Lit × DataW H) → Nat
  | [] => 0
  | x :: r => uptoBulkEntry x + uptoBulkEntries r
def uptoBulkEntry {H : Type} : Lit × DataW H → Nat
  | (.string bytes, d) => bytes.length + uptoBulk d + 1
  | (_, d) => uptoBulk d + 1
 end
def uptoSmall : (H : Type) → List (DataW H) → Bool := fun _ ds => decide (uptoBulkAll ds ≤ 1048576)
def OpenSpec.upto (s : _root_.Go.ChangeSpec) : _root_.Go.OpenSpec := { _root_.Go.OpenSpec.ofChange s with cond := some uptoSmall }

/-- 'groovelaw54.SyncmarkBad', WHERE WHAT IT READS IS OF BULK AT MOST 1048576: true; the input reads as it did. -/
def syncmarkBadUptoRow : OpenClaim := { program := "ytnjepajbbkejeaagreat", sum := "bd241215f2c02b9e61f43d0dfad755eab8557516fb8eb4c7f581938c6fc4f9f7", func := "groove/groovelaw54.SyncmarkBad", spec := "syncmarkBad", inPlace := ["internal/bytealg.IndexByteString", "internal/abi.NoEscape", "internal/bytealg.IndexString"], unfollowed := true, recurses := true, named := ["internal/bytealg.MaxLen"], plainKeys := false, apart := false, narrowed := true }
def SyncmarkBadUptoSaid : Prop := syncmarkBadUptoRow.holds Tryz.pinned (OpenSpec.upto syncmarkBadSpec)

/-- 'groovelaw54.SyncmarkValid', WHERE WHAT IT READS IS OF BULK AT MOST 1048576: true; the input reads as it did. -/
def syncmarkValidUptoRow : OpenClaim := { program := "ytnjepajbbkejeaagreat", sum := "bd241215f2c02b9e61f43d0dfad755eab8557516fb8eb4c7f581938c6fc4f9f7", func := "groove/groovelaw54.SyncmarkValid", spec := "syncmarkValid", inPlace := ["internal/bytealg.IndexByteString", "internal/abi.NoEscape", "internal/bytealg.IndexString"], unfollowed := true, recurses := true, named := ["internal/bytealg.MaxLen"], plainKeys := false, apart := false, narrowed := true }
def SyncmarkValidUptoSaid : Prop := syncmarkValidUptoRow.holds Tryz.pinned (OpenSpec.upto syncmarkValidSpec)

/-- 'groovelaw54.SyncmarkDamaged', WHERE WHAT IT READS IS OF BULK AT MOST 1048576: true; the input reads as it did. -/
def syncmarkDamagedUptoRow : OpenClaim := { program := "ytnjepajbbkejeaagreat", sum := "bd241215f2c02b9e61f43d0dfad755eab8557516fb8eb4c7f581938c6fc4f9f7", func := "groove/groovelaw54.SyncmarkDamaged", spec := "syncmarkDamaged", inPlace := ["internal/bytealg.IndexByteString", "internal/abi.NoEscape", "internal/bytealg.IndexString"], unfollowed := true, recurses := true, named := ["internal/bytealg.MaxLen"], plainKeys := false, apart := false, narrowed := true }
def SyncmarkDamagedUptoSaid : Prop := syncmarkDamagedUptoRow.holds Tryz.pinned (OpenSpec.upto syncmarkDamagedSpec)

/-- 'groovelaw54.SyncmarkParts', WHERE WHAT IT READS IS OF BULK AT MOST 1048576: true; the input reads as it did. -/
def syncmarkPartsUptoRow : OpenClaim := { program := "ytnjepajbbkejeaagreat", sum := "bd241215f2c02b9e61f43d0dfad755eab8557516fb8eb4c7f581938c6fc4f9f7", func := "groove/groovelaw54.SyncmarkParts", spec := "syncmarkParts", inPlace := ["internal/bytealg.IndexByteString", "internal/abi.NoEscape", "internal/bytealg.IndexString"], unfollowed := true, recurses := true, named := ["internal/bytealg.MaxLen"], plainKeys := false, apart := false, narrowed := true }
def SyncmarkPartsUptoSaid : Prop := syncmarkPartsUptoRow.holds Tryz.pinned (OpenSpec.upto syncmarkPartsSpec)

/-- 'groovelaw54.SyncmarkSearches', WHERE WHAT IT READS IS OF BULK AT MOST 1048576: true; the input reads as it did. -/
def syncmarkSearchesUptoRow : OpenClaim := { program := "ytnjepajbbkejeaagreat", sum := "bd241215f2c02b9e61f43d0dfad755eab8557516fb8eb4c7f581938c6fc4f9f7", func := "groove/groovelaw54.SyncmarkSearches", spec := "syncmarkSearches", inPlace := ["internal/bytealg.IndexByteString", "internal/abi.NoEscape", "internal/bytealg.IndexString", "internal/bytealg.MakeNoZero"], unfollowed := true, recurses := true, named := ["internal/bytealg.MaxLen"], plainKeys := false, apart := false, narrowed := true }
def SyncmarkSearchesUptoSaid : Prop := syncmarkSearchesUptoRow.holds Tryz.pinned (OpenSpec.upto syncmarkSearchesSpec)

end Rows
end Go.Proofs.YtnjepajbbkejeaaGreat
