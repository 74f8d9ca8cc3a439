/-
  No cell of these rows narrows 'for every input' (looked for: loops, veiled, ifaces, maps, wideKeys, modest, calm, conditions, laid).
  DERIVED. THE GIVEN ROWS OF THIS SEAT. 4 by the template 'for every input the law returns true; each argument reads behind the call as it read before'; 0 by the template 'total and deterministic' (their statements: YtnjepajbbkejeaaTotals.lean).
  GIVEN WITH THE SEED: the statements are not yours to turn. If you find one false, say at which input.
  Laid BY PROGRAM, IN A SANDBOX (cutbox-rows.mjs): the forced cells as the released guide's own fill.sh prints them over the translation 93b0624532810aa1… (all of the seat's roots in one cut). By AI agents, Wed Nov 11 2026. No macro, syntax, notation, axiom, sorry.
-/
import Derived.Test.YtnjepajbbkejeaaChecked
import GoSem.Claim
import GoSem.ClaimJoined
import GoSem.ClaimMapViews
import Derived.JoinedTies
import Derived.KernelRfl
namespace Go.Proofs.Ytnjepajbbkejeaa
/- THE CELL 'sum', in the pinned program and in every row, IS THE sha256 OF THE DUMP (.gsa) THAT YtnjepajbbkejeaaProg.lean LOADS. Nothing in Lean hashes anything: it is a label: what it is worth is what the hold of that sum in a sandbox is worth. -/
noncomputable def Try.pinned : Pinned := { name := "ytnjepajbbkejeaa", sum := "93b0624532810aa1a60bdf718f4fb0464512469630bd7638d322f264419977a8", checked := Try.checked }
namespace Rows
def none {H : Type} : Left H := { results := [], args := [] }

/-- 'groovelaw54.SyncmarkChecks': WHATEVER THE INPUT: true; the input reads as it did. -/
def syncmarkChecksSpec : ChangeSpec := { name := "syncmarkChecks", fn := fun _ => fun
  | [d1, d2, d3, d4] => { results := [.lit (.bool true)], args := [d1, d2, d3, d4] }
  | _ => none }
def syncmarkChecksRow : OpenClaim := { program := "ytnjepajbbkejeaa", sum := "93b0624532810aa1a60bdf718f4fb0464512469630bd7638d322f264419977a8", func := "groove/groovelaw54.SyncmarkChecks", spec := "syncmarkChecks", inPlace := ["internal/bytealg.IndexByteString", "internal/abi.NoEscape", "internal/bytealg.IndexString"], unfollowed := true, recurses := true, named := ["internal/bytealg.MaxLen"], plainKeys := false, apart := false }
def SyncmarkChecksSaid : Prop := syncmarkChecksRow.holds Try.pinned (OpenSpec.ofChange syncmarkChecksSpec)

/-- ITS FALSE NEIGHBOUR: 'it returns false'. Refute it at one input. -/
def syncmarkChecksWrong : ChangeSpec := { name := "syncmarkChecks", fn := fun _ => fun
  | [d1, d2, d3, d4] => { results := [.lit (.bool false)], args := [d1, d2, d3, d4] }
  | _ => none }
def SyncmarkChecksWrongFalsely : Prop := syncmarkChecksRow.holds Try.pinned (OpenSpec.ofChange syncmarkChecksWrong)

/-- 'groovelaw54.SyncmarkFree': WHATEVER THE INPUT: true; the input reads as it did. -/
def syncmarkFreeSpec : ChangeSpec := { name := "syncmarkFree", fn := fun _ => fun
  | [d1, d2, d3] => { results := [.lit (.bool true)], args := [d1, d2, d3] }
  | _ => none }
def syncmarkFreeRow : OpenClaim := { program := "ytnjepajbbkejeaa", sum := "93b0624532810aa1a60bdf718f4fb0464512469630bd7638d322f264419977a8", func := "groove/groovelaw54.SyncmarkFree", spec := "syncmarkFree", inPlace := ["internal/bytealg.IndexByteString", "internal/abi.NoEscape", "internal/bytealg.IndexString"], unfollowed := true, recurses := true, named := ["internal/bytealg.MaxLen"], plainKeys := false, apart := false }
def SyncmarkFreeSaid : Prop := syncmarkFreeRow.holds Try.pinned (OpenSpec.ofChange syncmarkFreeSpec)

/-- ITS FALSE NEIGHBOUR: 'it returns false'. Refute it at one input. -/
def syncmarkFreeWrong : ChangeSpec := { name := "syncmarkFree", fn := fun _ => fun
  | [d1, d2, d3] => { results := [.lit (.bool false)], args := [d1, d2, d3] }
  | _ => none }
def SyncmarkFreeWrongFalsely : Prop := syncmarkFreeRow.holds Try.pinned (OpenSpec.ofChange syncmarkFreeWrong)

/-- 'groovelaw54.SyncmarkOverlaps': WHATEVER THE INPUT: true; the input reads as it did. -/
def syncmarkOverlapsSpec : ChangeSpec := { name := "syncmarkOverlaps", fn := fun _ => fun
  | [d] => { results := [.lit (.bool true)], args := [d] }
  | _ => none }
def syncmarkOverlapsRow : OpenClaim := { program := "ytnjepajbbkejeaa", sum := "93b0624532810aa1a60bdf718f4fb0464512469630bd7638d322f264419977a8", func := "groove/groovelaw54.SyncmarkOverlaps", spec := "syncmarkOverlaps", inPlace := ["internal/bytealg.IndexByteString", "internal/abi.NoEscape", "internal/bytealg.IndexString"], unfollowed := true, recurses := true, named := ["internal/bytealg.MaxLen"], plainKeys := false, apart := false }
def SyncmarkOverlapsSaid : Prop := syncmarkOverlapsRow.holds Try.pinned (OpenSpec.ofChange syncmarkOverlapsSpec)

/-- ITS FALSE NEIGHBOUR: 'it returns false'. Refute it at one input. -/
def syncmarkOverlapsWrong : ChangeSpec := { name := "syncmarkOverlaps", fn := fun _ => fun
  | [d] => { results := [.lit (.bool false)], args := [d] }
  | _ => none }
def SyncmarkOverlapsWrongFalsely : Prop := syncmarkOverlapsRow.holds Try.pinned (OpenSpec.ofChange syncmarkOverlapsWrong)

/-- 'groovelaw54.SyncmarkSearch': WHATEVER THE INPUT: true; the input reads as it did. -/
def syncmarkSearchSpec : ChangeSpec := { name := "syncmarkSearch", fn := fun _ => fun
  | [d1, d2, d3, d4] => { results := [.lit (.bool true)], args := [d1, d2, d3, d4] }
  | _ => none }
def syncmarkSearchRow : OpenClaim := { program := "ytnjepajbbkejeaa", sum := "93b0624532810aa1a60bdf718f4fb0464512469630bd7638d322f264419977a8", func := "groove/groovelaw54.SyncmarkSearch", spec := "syncmarkSearch", inPlace := ["internal/bytealg.IndexByteString", "internal/abi.NoEscape", "internal/bytealg.IndexString", "internal/bytealg.MakeNoZero"], unfollowed := true, recurses := true, named := ["internal/bytealg.MaxLen"], plainKeys := false, apart := false }
def SyncmarkSearchSaid : Prop := syncmarkSearchRow.holds Try.pinned (OpenSpec.ofChange syncmarkSearchSpec)

/-- ITS FALSE NEIGHBOUR: 'it returns false'. Refute it at one input. -/
def syncmarkSearchWrong : ChangeSpec := { name := "syncmarkSearch", fn := fun _ => fun
  | [d1, d2, d3, d4] => { results := [.lit (.bool false)], args := [d1, d2, d3, d4] }
  | _ => none }
def SyncmarkSearchWrongFalsely : Prop := syncmarkSearchRow.holds Try.pinned (OpenSpec.ofChange syncmarkSearchWrong)

/- THE SECOND FORM. 'bulk': how many values and letters a reading holds, each counted each time it is reached (what is shared counts as often as it is met; a slice's spare places count too). A statement '..UptoSaid' is the law's where the arguments, and the package variables that the reading takes, are together of bulk at most 1048576: NARROWER than '..Said'. Prove '..Said' where nothing that the law and all that it calls make is longer than what came in: it says more and counts as full. Else prove '..UptoSaid'. A law counts once. -/
mutual
def uptoBulk {H : Type} : DataW H → Nat
  | .lit (.string bytes) => bytes.length + 1
  | .lit _ => 1
  | .nil => 1
  | .ptr d => uptoBulk d + 1
  | .slice elems spare => uptoBulkAll elems + uptoBulkAll spare + 1
  | .agg parts => uptoBulkAll parts + 1
  | .iface _ d => uptoBulk d + 1
  | .map entries => uptoBulkEntries entries + 1
  | .held _ => 1
def uptoBulkAll {H : Type} : List (DataW H) → Nat
  | [] => 0
  | d :: r => uptoBulk d + uptoBulkAll r
def uptoBulkEntries {H : Type} : List (Lit × DataW H) → Nat
  | [] => 0
  | x :: r => uptoBulkEntry x + uptoBulkEntries r
def uptoBulkEntry {H : Type} : Lit × DataW H → Nat
  | (.string bytes, d) => bytes.length + uptoBulk d + 1
  | (_, d) => uptoBulk d + 1
 end
def uptoSmall : (H : Type) → List (DataW H) → Bool := fun _ ds => decide (uptoBulkAll ds ≤ 1048576)
def OpenSpec.upto (s : _root_.Go.ChangeSpec) : _root_.Go.OpenSpec := { _root_.Go.OpenSpec.ofChange s with cond := some uptoSmall }

/-- 'groovelaw54.SyncmarkChecks', WHERE WHAT IT READS IS OF BULK AT MOST 1048576: true; the input reads as it did. -/
def syncmarkChecksUptoRow : OpenClaim := { program := "ytnjepajbbkejeaa", sum := "93b0624532810aa1a60bdf718f4fb0464512469630bd7638d322f264419977a8", func := "groove/groovelaw54.SyncmarkChecks", spec := "syncmarkChecks", inPlace := ["internal/bytealg.IndexByteString", "internal/abi.NoEscape", "internal/bytealg.IndexString"], unfollowed := true, recurses := true, named := ["internal/bytealg.MaxLen"], plainKeys := false, apart := false, narrowed := true }
def SyncmarkChecksUptoSaid : Prop := syncmarkChecksUptoRow.holds Try.pinned (OpenSpec.upto syncmarkChecksSpec)

/-- 'groovelaw54.SyncmarkFree', WHERE WHAT IT READS IS OF BULK AT MOST 1048576: true; the input reads as it did. -/
def syncmarkFreeUptoRow : OpenClaim := { program := "ytnjepajbbkejeaa", sum := "93b0624532810aa1a60bdf718f4fb0464512469630bd7638d322f264419977a8", func := "groove/groovelaw54.SyncmarkFree", spec := "syncmarkFree", inPlace := ["internal/bytealg.IndexByteString", "internal/abi.NoEscape", "internal/bytealg.IndexString"], unfollowed := true, recurses := true, named := ["internal/bytealg.MaxLen"], plainKeys := false, apart := false, narrowed := true }
def SyncmarkFreeUptoSaid : Prop := syncmarkFreeUptoRow.holds Try.pinned (OpenSpec.upto syncmarkFreeSpec)

/-- 'groovelaw54.SyncmarkOverlaps', WHERE WHAT IT READS IS OF BULK AT MOST 1048576: true; the input reads as it did. -/
def syncmarkOverlapsUptoRow : OpenClaim := { program := "ytnjepajbbkejeaa", sum := "93b0624532810aa1a60bdf718f4fb0464512469630bd7638d322f264419977a8", func := "groove/groovelaw54.SyncmarkOverlaps", spec := "syncmarkOverlaps", inPlace := ["internal/bytealg.IndexByteString", "internal/abi.NoEscape", "internal/bytealg.IndexString"], unfollowed := true, recurses := true, named := ["internal/bytealg.MaxLen"], plainKeys := false, apart := false, narrowed := true }
def SyncmarkOverlapsUptoSaid : Prop := syncmarkOverlapsUptoRow.holds Try.pinned (OpenSpec.upto syncmarkOverlapsSpec)

/-- 'groovelaw54.SyncmarkSearch', WHERE WHAT IT READS IS OF BULK AT MOST 1048576: true; the input reads as it did. -/
def syncmarkSearchUptoRow : OpenClaim := { program := "ytnjepajbbkejeaa", sum := "93b0624532810aa1a60bdf718f4fb0464512469630bd7638d322f264419977a8", func := "groove/groovelaw54.SyncmarkSearch", spec := "syncmarkSearch", inPlace := ["internal/bytealg.IndexByteString", "internal/abi.NoEscape", "internal/bytealg.IndexString", "internal/bytealg.MakeNoZero"], unfollowed := true, recurses := true, named := ["internal/bytealg.MaxLen"], plainKeys := false, apart := false, narrowed := true }
def SyncmarkSearchUptoSaid : Prop := syncmarkSearchUptoRow.holds Try.pinned (OpenSpec.upto syncmarkSearchSpec)

end Rows
end Go.Proofs.Ytnjepajbbkejeaa
