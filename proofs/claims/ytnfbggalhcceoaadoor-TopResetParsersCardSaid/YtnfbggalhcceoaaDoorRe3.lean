import Derived.Test.YtnfbggalhcceoaaDoorRe2
import Derived.DeepKeys3
import Derived.Laws.Cover1
import Derived.Lib.Bytealg
import Derived.Lib.Slices
import Derived.Lib.Small
import Derived.Lib.Strings
import Derived.Lib.Walk
import Derived.LoopN
import Derived.Maps.Keyed
import Derived.Shelf.SlSortCmp.NoneTotal
import Derived.Shelf.SlSortCmp.Whole1
import Derived.Shelf.Slices.CompactS
import Derived.Shelf.SlicesE.Clone
import Derived.Shelf.SortM.Plain
import Derived.Shelf.SortM.SortNone
import Derived.Sort.Walk0
import Derived.Test.YtnfbggalhcceoaaDoorChecked
import Derived.Test.YtnfbggalhcceoaaDoorProg
import Derived.WalkKit
import Derived.WideKeyMaps
namespace Go.AW
open Go
set_option linter.unusedVariables false
noncomputable def m_cmp_isNaN_int (p0 : Int) : Option (Bool) :=
 some (decide (p0 ≠ p0))
noncomputable def m_cmp_Compare_int (p0 : Int) (p1 : Int) : Option (Int) :=
 (m_cmp_isNaN_int p0).bind fun x1 =>
 (m_cmp_isNaN_int p1).bind fun x3 =>
 if x1 = true then
  if x3 = true then
   some 0
  else
   some (-1)
 else
  if x3 = true then
   some 1
  else
   if p0 < p1 then
    some (-1)
   else
    if p1 < p0 then
     some 1
    else
     some 0
noncomputable def m_word_known (p0 : Int) : Option (Bool) :=
 jp (fun (a1 : Bool) =>
  some a1)
  fun k3 =>
  if 1 ≤ p0 then
   k3 (decide (p0 ≤ 16))
  else
   k3 false
noncomputable def m_word_Check (p0 : Int) (p1 : List UInt8) : Option (Int) :=
 (m_word_known p0).bind fun x1 =>
 if (!x1) = true then
  some 12
 else
  if 65536 < ((p1).length : Int) then
   some 4
  else
   lpO (loopW (S := Int) (X := Ou (Unit) (Int)) (fun a3 =>
     if a3 < ((p1).length : Int) then
      if 0 ≤ (0 : Int) ∧ (0 : Int) ≤ p0 ∧ p0 ≤ (([48, 49, 50, 51, 52, 53, 54, 55, 56, 57, 97, 98, 99, 100, 101, 102] : List UInt8).length : Int) then
       (idx p1 a3).bind fun x8 =>
       (m_strings_IndexByte ((([48, 49, 50, 51, 52, 53, 54, 55, 56, 57, 97, 98, 99, 100, 101, 102] : List UInt8).take (p0).toNat).drop (0 : Int).toNat) (x8.toNat : Int)).bind fun x10 =>
       if x10 < 0 then
        some (Stp.exit (Ou.ret 13))
       else
        some (Stp.next (IntKind.wrap .i64 (a3 + 1)))
      else none
     else
      some (Stp.exit (Ou.go ()))) 0) (fun a12 =>
     some 0) some
abbrev TNegMag := Bool × (List UInt8)
abbrev TNumDen := TNegMag × TNegMag
abbrev cNumDen (x : TNumDen) : List HV := [HV.bool x.1.1, HV.str x.1.2, HV.bool x.2.1, HV.str x.2.2]
abbrev hI (n : Int) : HV := .int .i64 n
abbrev nS : List UInt8 := []
abbrev jF (j : List (List UInt8) × List (List UInt8)) : HV := .fptr [slE eStr j.1, slE eStr j.2] 0
abbrev jA (j : List (List UInt8) × List (List UInt8)) : HV := .agg [slE eStr j.1, slE eStr j.2]
abbrev gF (g : TLabelsStatesEdges) : HV := .fptr [.int .i64 g.1, .int .i64 g.2.1, slE eFromLabelTo g.2.2] 0
abbrev gA (g : TLabelsStatesEdges) : HV := .agg [.int .i64 g.1, .int .i64 g.2.1, slE eFromLabelTo g.2.2]
abbrev zND : List HV := [.bool false, .str [], .bool false, .str []]
theorem to_L {s s' : AS} {G : AS → Prop} (h : G s') (h1 : gets s.slots s'.slots = somes s'.slots := by exact rfl) (h2 : hgets s.heap s'.heap = hsomes s'.heap := by exact rfl) : s.to G := to_le (le_q h1 h2) h
theorem bf {P : Program} {ro : Option Nat} {N : Nat} {all : Array Oper} {s : AS} {c : Code} {Q : Exit → AS → Prop} {K : AS → Prop} (hK : ∀ s', AW P ro N c Q s' → K s') (s' : AS) (h : AW P ro N c Q s') (h1 : gets s.slots s'.slots = somes s'.slots := by exact rfl) (h2 : hgets s.heap s'.heap = hsomes s'.heap := by exact rfl) : bops P ro N all [] K s := b_fin hK (le_q h1 h2) h
theorem lg {P : Program} {ro : Option Nat} {N : Nat} {ops : Array Oper} {s s' : AS} {K : AS → Prop} {F : List Nat → AS → Prop} {L L' : List Nat} (hF : F = AnyL P ro N ops K) (h : F L' s') (hsame : (List.range ops.size).all (fun i => L.contains i == L'.contains i) = true := by exact rfl) (h1 : gets s.slots s'.slots = somes s'.slots := by exact rfl) (h2 : hgets s.heap s'.heap = hsomes s'.heap := by exact rfl) : F L s := l_go hF hsame h (le_q h1 h2)
theorem cT {p : Prop} [Decidable p] {R : Type} {a b : Option R} {r : R} (hc : decide p = true) (h : (if p then a else b) = some r) : p ∧ a = some r := ⟨of_decide_eq_true hc, ifT (of_decide_eq_true hc) h⟩
theorem cF {p : Prop} [Decidable p] {R : Type} {a b : Option R} {r : R} (hc : decide p = false) (h : (if p then a else b) = some r) : ¬ p ∧ b = some r := ⟨of_decide_eq_false hc, ifF (of_decide_eq_false hc) h⟩
theorem lb {n m : Nat} (h : Nat.ble n m = true) : n ≤ m := Nat.le_of_ble_eq_true h
theorem l_ov {P : Program} {ro : Option Nat} {N i d : Nat} {ops : Array Oper} {o : Oper} {G : AS → Prop} {v : HV} {sl : List (Nat × HV)} {H : Heap} (ho : ops[i]? = some o) (hg : o.guard = none) (hN : okd N o.dst = true) (h0 : (o.dst, isVal o.op) = (some d, true)) (hv : aval P o.op ⟨sl, H⟩ (· = v)) (k : G ⟨(d, v) :: sl, H⟩) : AOpI P ro N ops i G ⟨sl, H⟩ := l_op (fid := 0) (mt := []) ho hg hN (o_val h0 hv (b_nil k))
theorem oi {α : Type} {a b : α} (h : some a = some b) : a = b := Option.some.inj h
abbrev ASf := List (Nat × HV) → Heap → AS
open Go.Proofs
theorem ty2 : ty Tryd.prog 2 = some { desc := TypeDesc.int IntKind.i64, size := 1, bytes := 8, zero := Value.int IntKind.i64 (0) } := by kernel_rfl
theorem ty3 : ty Tryd.prog 3 = some { desc := TypeDesc.int IntKind.i64, size := 1, bytes := 8, zero := Value.int IntKind.i64 (0) } := by kernel_rfl
theorem ty4 : ty Tryd.prog 4 = some { desc := TypeDesc.bool, size := 1, bytes := 1, zero := Value.bool false } := by kernel_rfl
theorem ty5 : ty Tryd.prog 5 = some { desc := TypeDesc.int IntKind.u8, size := 1, bytes := 1, zero := Value.int IntKind.u8 (0) } := by kernel_rfl
theorem ty6 : ty Tryd.prog 6 = some { desc := TypeDesc.int IntKind.u8, size := 1, bytes := 1, zero := Value.int IntKind.u8 (0) } := by kernel_rfl
theorem ty9 : ty Tryd.prog 9 = some { desc := TypeDesc.string, size := 1, bytes := 16, zero := Value.string { data := #[] } } := by kernel_rfl
theorem ty10 : ty Tryd.prog 10 = some { desc := TypeDesc.string, size := 1, bytes := 16, zero := Value.string { data := #[] } } := by kernel_rfl
theorem ty11 : ty Tryd.prog 11 = some { desc := TypeDesc.string, size := 1, bytes := 16, zero := Value.string { data := #[] } } := by kernel_rfl
theorem ty12 : ty Tryd.prog 12 = some { desc := TypeDesc.int IntKind.u64, size := 1, bytes := 8, zero := Value.int IntKind.u64 (0) } := by kernel_rfl
theorem ty15 : ty Tryd.prog 15 = some { desc := TypeDesc.pointer 130, size := 1, bytes := 8, zero := Value.pointer none } := by kernel_rfl
theorem ty16 : ty Tryd.prog 16 = some { desc := TypeDesc.pointer 133, size := 1, bytes := 8, zero := Value.pointer none } := by kernel_rfl
theorem ty17 : ty Tryd.prog 17 = some { desc := TypeDesc.pointer 142, size := 1, bytes := 8, zero := Value.pointer none } := by kernel_rfl
theorem ty21 : ty Tryd.prog 21 = some { desc := TypeDesc.int IntKind.i32, size := 1, bytes := 4, zero := Value.int IntKind.i32 (0) } := by kernel_rfl
theorem ty22 : ty Tryd.prog 22 = some { desc := TypeDesc.slice 9, size := 1, bytes := 24, zero := Value.slice none 0 0 } := by kernel_rfl
theorem ty23 : ty Tryd.prog 23 = some { desc := TypeDesc.struct { toList := [{ name := "Letters", type := 3, offset := 0, embedded := false, tag := "", pkgPath := "", byteOffset := 0 }, { name := "Words", type := 22, offset := 1, embedded := false, tag := "", pkgPath := "", byteOffset := 8 }] }, size := 2, bytes := 32, zero := Value.agg #[Value.int IntKind.i64 (0), Value.slice none 0 0] } := by kernel_rfl
theorem ty24 : ty Tryd.prog 24 = some { desc := TypeDesc.struct { toList := [{ name := "Letters", type := 3, offset := 0, embedded := false, tag := "", pkgPath := "", byteOffset := 0 }, { name := "Words", type := 22, offset := 1, embedded := false, tag := "", pkgPath := "", byteOffset := 8 }] }, size := 2, bytes := 32, zero := Value.agg #[Value.int IntKind.i64 (0), Value.slice none 0 0] } := by kernel_rfl
theorem ty25 : ty Tryd.prog 25 = some { desc := TypeDesc.slice 39, size := 1, bytes := 24, zero := Value.slice none 0 0 } := by kernel_rfl
theorem ty26 : ty Tryd.prog 26 = some { desc := TypeDesc.struct { toList := [{ name := "Letters", type := 3, offset := 0, embedded := false, tag := "", pkgPath := "", byteOffset := 0 }, { name := "Prefixes", type := 22, offset := 1, embedded := false, tag := "", pkgPath := "", byteOffset := 8 }, { name := "Next", type := 25, offset := 2, embedded := false, tag := "", pkgPath := "", byteOffset := 32 }, { name := "Emit", type := 25, offset := 3, embedded := false, tag := "", pkgPath := "", byteOffset := 56 }] }, size := 4, bytes := 80, zero := Value.agg { toList := [Value.int IntKind.i64 (0), Value.slice none 0 0, Value.slice none 0 0, Value.slice none 0 0] } } := by kernel_rfl
theorem ty27 : ty Tryd.prog 27 = some { desc := TypeDesc.struct { toList := [{ name := "Letters", type := 3, offset := 0, embedded := false, tag := "", pkgPath := "", byteOffset := 0 }, { name := "Prefixes", type := 22, offset := 1, embedded := false, tag := "", pkgPath := "", byteOffset := 8 }, { name := "Next", type := 25, offset := 2, embedded := false, tag := "", pkgPath := "", byteOffset := 32 }, { name := "Emit", type := 25, offset := 3, embedded := false, tag := "", pkgPath := "", byteOffset := 56 }] }, size := 4, bytes := 80, zero := Value.agg { toList := [Value.int IntKind.i64 (0), Value.slice none 0 0, Value.slice none 0 0, Value.slice none 0 0] } } := by kernel_rfl
theorem ty28 : ty Tryd.prog 28 = some { desc := TypeDesc.struct { toList := [{ name := "Letters", type := 3, offset := 0, embedded := false, tag := "", pkgPath := "", byteOffset := 0 }, { name := "Next", type := 25, offset := 1, embedded := false, tag := "", pkgPath := "", byteOffset := 8 }] }, size := 2, bytes := 32, zero := Value.agg #[Value.int IntKind.i64 (0), Value.slice none 0 0] } := by kernel_rfl
theorem ty29 : ty Tryd.prog 29 = some { desc := TypeDesc.struct { toList := [{ name := "Letters", type := 3, offset := 0, embedded := false, tag := "", pkgPath := "", byteOffset := 0 }, { name := "Next", type := 25, offset := 1, embedded := false, tag := "", pkgPath := "", byteOffset := 8 }] }, size := 2, bytes := 32, zero := Value.agg #[Value.int IntKind.i64 (0), Value.slice none 0 0] } := by kernel_rfl
theorem ty32 : ty Tryd.prog 32 = some { desc := TypeDesc.int IntKind.i64, size := 1, bytes := 8, zero := Value.int IntKind.i64 (0) } := by kernel_rfl
theorem ty39 : ty Tryd.prog 39 = some { desc := TypeDesc.slice 3, size := 1, bytes := 24, zero := Value.slice none 0 0 } := by kernel_rfl
theorem ty55 : ty Tryd.prog 55 = some { desc := TypeDesc.struct { toList := [{ name := "set", type := 3, offset := 0, embedded := false, tag := "", pkgPath := "groove/resync", byteOffset := 0 }, { name := "before", type := 3, offset := 1, embedded := false, tag := "", pkgPath := "groove/resync", byteOffset := 8 }, { name := "letter", type := 3, offset := 2, embedded := false, tag := "", pkgPath := "groove/resync", byteOffset := 16 }] }, size := 3, bytes := 24, zero := Value.agg { toList := [Value.int IntKind.i64 (0), Value.int IntKind.i64 (0), Value.int IntKind.i64 (0)] } } := by kernel_rfl
theorem ty56 : ty Tryd.prog 56 = some { desc := TypeDesc.struct { toList := [{ name := "set", type := 3, offset := 0, embedded := false, tag := "", pkgPath := "groove/resync", byteOffset := 0 }, { name := "before", type := 3, offset := 1, embedded := false, tag := "", pkgPath := "groove/resync", byteOffset := 8 }, { name := "letter", type := 3, offset := 2, embedded := false, tag := "", pkgPath := "groove/resync", byteOffset := 16 }] }, size := 3, bytes := 24, zero := Value.agg { toList := [Value.int IntKind.i64 (0), Value.int IntKind.i64 (0), Value.int IntKind.i64 (0)] } } := by kernel_rfl
theorem ty57 : ty Tryd.prog 57 = some { desc := TypeDesc.slice 56, size := 1, bytes := 24, zero := Value.slice none 0 0 } := by kernel_rfl
theorem ty58 : ty Tryd.prog 58 = some { desc := TypeDesc.slice 4, size := 1, bytes := 24, zero := Value.slice none 0 0 } := by kernel_rfl
theorem ty70 : ty Tryd.prog 70 = some { desc := TypeDesc.struct { toList := [{ name := "set", type := 3, offset := 0, embedded := false, tag := "", pkgPath := "groove/reset", byteOffset := 0 }, { name := "word", type := 9, offset := 1, embedded := false, tag := "", pkgPath := "groove/reset", byteOffset := 8 }] }, size := 2, bytes := 24, zero := Value.agg #[Value.int IntKind.i64 (0), Value.string { data := #[] }] } := by kernel_rfl
theorem ty71 : ty Tryd.prog 71 = some { desc := TypeDesc.struct { toList := [{ name := "set", type := 3, offset := 0, embedded := false, tag := "", pkgPath := "groove/reset", byteOffset := 0 }, { name := "word", type := 9, offset := 1, embedded := false, tag := "", pkgPath := "groove/reset", byteOffset := 8 }] }, size := 2, bytes := 24, zero := Value.agg #[Value.int IntKind.i64 (0), Value.string { data := #[] }] } := by kernel_rfl
theorem ty72 : ty Tryd.prog 72 = some { desc := TypeDesc.slice 71, size := 1, bytes := 24, zero := Value.slice none 0 0 } := by kernel_rfl
theorem ty73 : ty Tryd.prog 73 = some { desc := TypeDesc.map 3 4, size := 1, bytes := 8, zero := Value.map none } := by kernel_rfl
theorem ty77 : ty Tryd.prog 77 = some { desc := TypeDesc.int IntKind.u64, size := 1, bytes := 8, zero := Value.int IntKind.u64 (0) } := by kernel_rfl
theorem ty87 : ty Tryd.prog 87 = some { desc := TypeDesc.map 9 3, size := 1, bytes := 8, zero := Value.map none } := by kernel_rfl
theorem ty95 : ty Tryd.prog 95 = some { desc := TypeDesc.int IntKind.u32, size := 1, bytes := 4, zero := Value.int IntKind.u32 (0) } := by kernel_rfl
theorem ty97 : ty Tryd.prog 97 = some { desc := TypeDesc.int IntKind.u64, size := 1, bytes := 8, zero := Value.int IntKind.u64 (0) } := by kernel_rfl
theorem ty110 : ty Tryd.prog 110 = some { desc := TypeDesc.int IntKind.i64, size := 1, bytes := 8, zero := Value.int IntKind.i64 (0) } := by kernel_rfl
theorem ty119 : ty Tryd.prog 119 = some { desc := TypeDesc.int IntKind.u64, size := 1, bytes := 8, zero := Value.int IntKind.u64 (0) } := by kernel_rfl
theorem ty123 : ty Tryd.prog 123 = some { desc := TypeDesc.pointer 3, size := 1, bytes := 8, zero := Value.pointer none } := by kernel_rfl
theorem ty125 : ty Tryd.prog 125 = some { desc := TypeDesc.pointer 119, size := 1, bytes := 8, zero := Value.pointer none } := by kernel_rfl
theorem ty131 : ty Tryd.prog 131 = some { desc := TypeDesc.array 0 16, size := 0, bytes := 0, zero := Value.agg #[] } := by kernel_rfl
theorem ty135 : ty Tryd.prog 135 = some { desc := TypeDesc.int IntKind.u8, size := 1, bytes := 1, zero := Value.int IntKind.u8 (0) } := by kernel_rfl
theorem ty136 : ty Tryd.prog 136 = some { desc := TypeDesc.int IntKind.u8, size := 1, bytes := 1, zero := Value.int IntKind.u8 (0) } := by kernel_rfl
theorem ty138 : ty Tryd.prog 138 = some { desc := TypeDesc.pointer 5, size := 1, bytes := 8, zero := Value.pointer none } := by kernel_rfl
theorem ty139 : ty Tryd.prog 139 = some { desc := TypeDesc.int IntKind.i32, size := 1, bytes := 4, zero := Value.int IntKind.i32 (0) } := by kernel_rfl
theorem ty140 : ty Tryd.prog 140 = some { desc := TypeDesc.int IntKind.i32, size := 1, bytes := 4, zero := Value.int IntKind.i32 (0) } := by kernel_rfl
attribute [go_sem] ty2 ty3 ty4 ty5 ty6 ty9 ty10 ty11 ty12 ty15 ty16 ty17 ty21 ty22 ty23 ty24 ty25 ty26 ty27 ty28 ty29 ty32 ty39 ty55 ty56 ty57 ty58 ty70 ty71 ty72 ty73 ty77 ty87 ty95 ty97 ty110 ty119 ty123 ty125 ty131 ty135 ty136 ty138 ty139 ty140
theorem follows : Tryd.prog.follows .mixedOrders = true := by kernel_rfl
theorem fo24_0 : fieldOf Tryd.prog 24 0 = some (0, { desc := TypeDesc.int IntKind.i64, size := 1, bytes := 8, zero := Value.int IntKind.i64 (0) }) := by kernel_rfl
theorem fo24_1 : fieldOf Tryd.prog 24 1 = some (1, { desc := TypeDesc.slice 9, size := 1, bytes := 24, zero := Value.slice none 0 0 }) := by kernel_rfl
theorem fo27_0 : fieldOf Tryd.prog 27 0 = some (0, { desc := TypeDesc.int IntKind.i64, size := 1, bytes := 8, zero := Value.int IntKind.i64 (0) }) := by kernel_rfl
theorem fo27_1 : fieldOf Tryd.prog 27 1 = some (1, { desc := TypeDesc.slice 9, size := 1, bytes := 24, zero := Value.slice none 0 0 }) := by kernel_rfl
theorem fo27_2 : fieldOf Tryd.prog 27 2 = some (2, { desc := TypeDesc.slice 39, size := 1, bytes := 24, zero := Value.slice none 0 0 }) := by kernel_rfl
theorem fo27_3 : fieldOf Tryd.prog 27 3 = some (3, { desc := TypeDesc.slice 39, size := 1, bytes := 24, zero := Value.slice none 0 0 }) := by kernel_rfl
theorem fo29_0 : fieldOf Tryd.prog 29 0 = some (0, { desc := TypeDesc.int IntKind.i64, size := 1, bytes := 8, zero := Value.int IntKind.i64 (0) }) := by kernel_rfl
theorem fo29_1 : fieldOf Tryd.prog 29 1 = some (1, { desc := TypeDesc.slice 39, size := 1, bytes := 24, zero := Value.slice none 0 0 }) := by kernel_rfl
theorem fo56_0 : fieldOf Tryd.prog 56 0 = some (0, { desc := TypeDesc.int IntKind.i64, size := 1, bytes := 8, zero := Value.int IntKind.i64 (0) }) := by kernel_rfl
theorem fo56_1 : fieldOf Tryd.prog 56 1 = some (1, { desc := TypeDesc.int IntKind.i64, size := 1, bytes := 8, zero := Value.int IntKind.i64 (0) }) := by kernel_rfl
theorem fo56_2 : fieldOf Tryd.prog 56 2 = some (2, { desc := TypeDesc.int IntKind.i64, size := 1, bytes := 8, zero := Value.int IntKind.i64 (0) }) := by kernel_rfl
theorem fo71_0 : fieldOf Tryd.prog 71 0 = some (0, { desc := TypeDesc.int IntKind.i64, size := 1, bytes := 8, zero := Value.int IntKind.i64 (0) }) := by kernel_rfl
theorem fo71_1 : fieldOf Tryd.prog 71 1 = some (1, { desc := TypeDesc.string, size := 1, bytes := 16, zero := Value.string { data := #[] } }) := by kernel_rfl
theorem es22 : elemSize Tryd.prog 22 = some 1 := by kernel_rfl
theorem es25 : elemSize Tryd.prog 25 = some 1 := by kernel_rfl
theorem es39 : elemSize Tryd.prog 39 = some 1 := by kernel_rfl
theorem es57 : elemSize Tryd.prog 57 = some 3 := by kernel_rfl
theorem es58 : elemSize Tryd.prog 58 = some 1 := by kernel_rfl
theorem es72 : elemSize Tryd.prog 72 = some 2 := by kernel_rfl
theorem Pure.use {P : Program} {f : FuncId} {args : List HV} {H : Heap} {K : HV → Heap → Prop} {R : HV → Prop} (hp : Pure P f args R) (hK : ∀ r, R r → K r H) : ACall P f args H K := ACall.pure0 hp hK
end Go.AW

namespace Go.Proofs
open Go
end Go.Proofs
namespace Go.AW
open Go
section
open Go Go.Proofs Go.Sort
theorem repL_map {α : Type} {w : World} {μ : Mu} {f : α → HV} {g : α → Value} : ∀ {l : List α}, RepL w μ (l.map f) (l.map g) ↔ ∀ x ∈ l, Rep w μ (f x) (g x)
 | [] => by simp [RepL]
 | a :: l => by
  simp only [List.map_cons, RepL, List.mem_cons, forall_eq_or_imp]
  constructor
  ·rintro ⟨x, xs, e, h1, h2⟩
   cases e
   exact ⟨h1, repL_map.1 h2⟩
  exact fun ⟨h1, h2⟩ => ⟨_, _, rfl, h1, repL_map.2 h2⟩
theorem sorted_world {α : Type} [Inhabited α] {enc : α → Value} {f : α → HV} (hf1 : ∀ x, (f x).one = true) {w : World} {μ : Mu} {H : Heap} {id ver b k : Nat} {e : TypeId} {l d : List α} (hs : SR w μ H) (hg : hget H id = some (ver, .arr k e (l.map f)))
  (hl : μ.loc id = some (ver, some b)) (hrep : ∀ x ∈ l, Rep w μ (f x) (enc x)) (hor : OR w μ (.arr k e (l.map f)) (some b)) (hv : ∀ vs, RepL w μ (l.map f) vs → vs = l.map enc) (hp : d.Perm l) (n : Nat) (os : Array Obj) :
  SR (grow (putRow enc (Sort.ahead w n) b 0 d.toArray) os) μ (hset H id ver (.arr k e (d.map f))) ∧ Evo w μ (grow (putRow enc (Sort.ahead w n) b 0 d.toArray) os) μ := by
 obtain ⟨h0, cur, vs, rest, hrow, hcl, hrl⟩ := hor
 have hvs := hv vs hrl
 subst hvs
 have hlen : d.length = l.length := hp.length_eq
 have hcsz : cur.size = l.length + rest.length := by rw [← Array.length_toList, hcl]; simp
 -- the world with the row put
 have hb := hrow.lt
 obtain ⟨lo, hi, hbk, hfr⟩ := hrow
 have hbk' : (putRow enc (Sort.ahead w n) b 0 d.toArray).heap[b]? = some (.cells (putCells enc 0 d.toArray cur) e (lo, hi)) := by
  show (w.heap.modify b _)[b]? = _
  rw [Array.getElem?_modify, if_pos rfl, hbk]
  rfl
 have hcur' : (putCells enc 0 d.toArray cur).toList = d.map enc ++ rest := by
  apply List.ext_getElem?
  intro i
  rw [Array.getElem?_toList]
  simp only [putCells, Array.getElem?_mapIdx]
  have hc : cur[i]? = (l.map enc ++ rest)[i]? := by rw [← hcl, Array.getElem?_toList]
  rw [hc]
  rcases Nat.lt_or_ge i d.length with hi | hi
  ·rw [List.getElem?_append_left (by simp; omega), List.getElem?_append_left (by simpa using hi), List.getElem?_map, List.getElem?_map, List.getElem?_eq_getElem (by omega : i < l.length), List.getElem?_eq_getElem hi]
   simp only [Option.map_some]
   rw [if_pos ⟨Nat.zero_le _, by simpa using hi⟩]
   simp [hi]
  rw [List.getElem?_append_right (by simp; omega), List.getElem?_append_right (by simpa using hi)]
  simp only [List.length_map, hlen]
  cases rest[i - l.length]? with
  | none => rfl
  | some x =>
   simp only [Option.map_some]
   rw [if_neg (by simp; omega)]
 have hsz1 : (putRow enc (Sort.ahead w n) b 0 d.toArray).heap.size = w.heap.size := by rw [Sort.size_putRow]; rfl
 have hrow1 : Row (putRow enc (Sort.ahead w n) b 0 d.toArray) b (putCells enc 0 d.toArray cur) e := ⟨lo, hi, hbk', by simpa [putCells] using hfr⟩
 have hold : ∀ b', b' ≠ b → (putRow enc (Sort.ahead w n) b 0 d.toArray).heap[b']? = w.heap[b']? := fun b' hne => by
  show (w.heap.modify b _)[b']? = _
  rw [Array.getElem?_modify, if_neg (fun e => hne e.symm)]
 obtain ⟨h1, h2⟩ := hs.updArr (cs' := d.map f) (w' := putRow enc (Sort.ahead w n) b 0 d.toArray) hg hl ⟨rfl, rfl, rfl⟩ hsz1 hold ⟨lo, hi, hbk, hfr⟩ hrow1 (by simp [putCells]) fun E => by
  refine ⟨fun c hc => ?_, _, d.map enc, rest, hrow1, hcur', repL_map.2 fun x hx => Rep.evo E hs.ok _ _ (hrep x (hp.mem_iff.1 hx))⟩
  obtain ⟨x, _, rfl⟩ := List.mem_map.1 hc
  exact hf1 x
 have g : Grow (putRow enc (Sort.ahead w n) b 0 d.toArray) (grow (putRow enc (Sort.ahead w n) b 0 d.toArray) os) :=
  ⟨⟨rfl, rfl, rfl⟩, by rw [size_grow]; omega, fun b' hb' => by
   show (_ ++ os)[b']? = _
   rw [Array.getElem?_append_left hb']⟩
 exact ⟨h1.grow g, h2.trans (Evo.grow h1 g)⟩
theorem holds_row {α : Type} [Inhabited α] {enc : α → Value} {w : World} {b : Nat} {cur : Array Value} {e : TypeId} {l : List α} {rest : List Value} (hrow : Row w b cur e) (hcl : cur.toList = l.map enc ++ rest) : Holds enc w b 0 l.toArray := by
 intro j hj
 have hj' : j < l.length := by simpa using hj
 have hc : cur[j]? = some (enc l[j]) := by
  rw [← Array.getElem?_toList, hcl, List.getElem?_append_left (by simpa using hj'), List.getElem?_map, List.getElem?_eq_getElem hj']
  rfl
 refine ⟨?_, ?_⟩
 ·rw [Nat.zero_add, hrow.cell, hc]
  simp [hj']
 rw [Nat.zero_add]
 exact hrow.free (Array.getElem?_eq_some_iff.1 hc).1
theorem repL_strs {w : World} {μ : Mu} : ∀ {l : List (List UInt8)} {vs : List Value}, RepL w μ (l.map .str) vs → vs = l.map encStr ∧ ∀ x ∈ l, Rep w μ (.str x) (encStr x)
 | [], vs, h => by simp only [List.map_nil, RepL] at h; subst h; exact ⟨rfl, by simp⟩
 | a :: l, vs, ⟨x, xs, e, h1, h2⟩ => by
  obtain ⟨h3, h4⟩ := repL_strs h2
  obtain ⟨rfl, hl⟩ := h1
  subst e
  rw [h3]
  exact ⟨rfl, by simpa using ⟨⟨rfl, hl⟩, h4⟩⟩
end
section
open Go Go.Proofs Go.Sort Go.Lib
theorem put_world {α : Type} [Inhabited α] {enc : α → Value} {f : α → HV} (hf1 : ∀ x, (f x).one = true) {w : World} {μ : Mu} {H : Heap} {id ver b k : Nat} {e : TypeId} {l d : List α} (hs : SR w μ H) (hg : hget H id = some (ver, .arr k e (l.map f)))
  (hl : μ.loc id = some (ver, some b)) (hrep : ∀ x ∈ d, Rep w μ (f x) (enc x)) (hor : OR w μ (.arr k e (l.map f)) (some b)) (hv : ∀ vs, RepL w μ (l.map f) vs → vs = l.map enc) (hlen : d.length = l.length) (n : Nat) :
  SR (putRow enc (Sort.ahead w n) b 0 d.toArray) μ (hset H id ver (.arr k e (d.map f))) ∧ Evo w μ (putRow enc (Sort.ahead w n) b 0 d.toArray) μ := by
 obtain ⟨h0, cur, vs, rest, hrow, hcl, hrl⟩ := hor
 have hvs := hv vs hrl
 subst hvs
 have hcsz : cur.size = l.length + rest.length := by rw [← Array.length_toList, hcl]; simp
 obtain ⟨lo, hi, hbk, hfr⟩ := hrow
 have hbk' : (putRow enc (Sort.ahead w n) b 0 d.toArray).heap[b]? = some (.cells (putCells enc 0 d.toArray cur) e (lo, hi)) := by
  show (w.heap.modify b _)[b]? = _
  rw [Array.getElem?_modify, if_pos rfl, hbk]
  rfl
 have hcur' : (putCells enc 0 d.toArray cur).toList = d.map enc ++ rest := by
  apply List.ext_getElem?
  intro i
  rw [Array.getElem?_toList]
  simp only [putCells, Array.getElem?_mapIdx]
  have hc : cur[i]? = (l.map enc ++ rest)[i]? := by rw [← hcl, Array.getElem?_toList]
  rw [hc]
  rcases Nat.lt_or_ge i d.length with hi | hi
  ·rw [List.getElem?_append_left (by simp; omega), List.getElem?_append_left (by simpa using hi), List.getElem?_map, List.getElem?_map, List.getElem?_eq_getElem (by omega : i < l.length), List.getElem?_eq_getElem hi]
   simp only [Option.map_some]
   rw [if_pos ⟨Nat.zero_le _, by simpa using hi⟩]
   simp [hi]
  rw [List.getElem?_append_right (by simp; omega), List.getElem?_append_right (by simpa using hi)]
  simp only [List.length_map, hlen]
  cases rest[i - l.length]? with
  | none => rfl
  | some x =>
   simp only [Option.map_some]
   rw [if_neg (by simp; omega)]
 have hsz1 : (putRow enc (Sort.ahead w n) b 0 d.toArray).heap.size = w.heap.size := by rw [Sort.size_putRow]; rfl
 have hrow1 : Row (putRow enc (Sort.ahead w n) b 0 d.toArray) b (putCells enc 0 d.toArray cur) e := ⟨lo, hi, hbk', by simpa [putCells] using hfr⟩
 have hold : ∀ b', b' ≠ b → (putRow enc (Sort.ahead w n) b 0 d.toArray).heap[b']? = w.heap[b']? := fun b' hne => by
  show (w.heap.modify b _)[b']? = _
  rw [Array.getElem?_modify, if_neg (fun e => hne e.symm)]
 exact hs.updArr (cs' := d.map f) (w' := putRow enc (Sort.ahead w n) b 0 d.toArray) hg hl ⟨rfl, rfl, rfl⟩ hsz1 hold ⟨lo, hi, hbk, hfr⟩ hrow1 (by simp [putCells]) fun E => by
  refine ⟨fun c hc => ?_, _, d.map enc, rest, hrow1, hcur', repL_map.2 fun x hx => Rep.evo E hs.ok _ _ (hrep x hx)⟩
  obtain ⟨x, _, rfl⟩ := List.mem_map.1 hc
  exact hf1 x
end
end Go.AW
namespace Go.Proofs
open Go
set_option maxHeartbeats 1000000 in
set_option maxRecDepth 100000 in
theorem Tryd.stringslite_IndexByte (s : ByteArray) (c : Int) (w : World) :
  Calls Tryd.prog 31 #[.string s, .int .u8 c] w fun e w' => e = .returned (.int .i64 (Lib.indexByte s.data.toList c.toNat.toUInt8)) ∧ w' = w := by
 go_enter Tryd.func31, Tryd.ntmps31
 go_wp2
 rw [run_callFunc_extern Tryd.func51 (by kernel_rfl) (by kernel_rfl) (by kernel_rfl) (e := Extern.BytealgIndexByte.indexByte) (by kernel_rfl), Lib.run_indexByteString]
 simp only [Result.andThen]
 rw [Oper.upon_value]
 go_wp2
 go_ret
 exact ⟨rfl, rfl⟩
set_option maxHeartbeats 1000000 in
theorem Tryd.strings_IndexByte (s : ByteArray) (c : Int) (w : World) :
  Calls Tryd.prog 15 #[.string s, .int .u8 c] w fun e w' => e = .returned (.int .i64 (Lib.indexByte s.data.toList c.toNat.toUInt8)) ∧ w' = w := by
 go_enter Tryd.func15, Tryd.ntmps15
 go_wp2_with (go_at_call 31; refine (Tryd.stringslite_IndexByte _ _ _).mono ?_; rintro e w' ⟨rfl, rfl⟩)
 go_ret
 exact ⟨rfl, rfl⟩
end Go.Proofs
namespace Go.AW
open Go Go.Proofs
theorem idx_wf (l : List UInt8) (c : UInt8) (hl : l.length ≤ maxLen) : (Lit.int .i64 (Lib.indexByte l c)).wf = true := by
 have h : ∀ l : List UInt8, -1 ≤ Lib.indexByte l c ∧ Lib.indexByte l c ≤ l.length := by
  intro l
  induction l with
  | nil => simp [Lib.indexByte]
  | cons a l ih =>
   simp only [Lib.indexByte, List.length_cons]
   split
   ·omega
   split
   ·omega
   omega
 have := h l
 simp only [maxLen] at hl
 simp only [Lit.wf, IntKind.min, IntKind.max, IntKind.signed, IntKind.bits, Bool.and_eq_true, decide_eq_true_eq]
 simp
 omega
theorem w51 (l : List UInt8) (c : Int) : Pure Tryd.prog 15 [.str l, .int .u8 c] (· = .int .i64 (Lib.indexByte l c.toNat.toUInt8)) := by
 refine ⟨enters' Tryd.func15 rfl rfl, fun μ w vs hs hr _ => ?_⟩
 obtain ⟨x, xs, rfl, ⟨rfl, hl⟩, y, ys, rfl, ⟨rfl, _⟩, hn⟩ := hr
 cases hn
 refine (Tryd.strings_IndexByte ⟨l.toArray⟩ c w).mono ?_
 rintro e w' ⟨rfl, rfl⟩
 exact ⟨_, _, [], μ, rfl, ⟨rfl, trivial, rfl⟩, hs, ⟨by simp, idx_wf l _ hl⟩, Evo.refl _ _⟩
end Go.AW
namespace Go.Proofs
open Go
end Go.Proofs
namespace Go.AW
open Go Go.Proofs Go.Sort Go.Lib
set_option linter.unusedVariables false
theorem w_strings_IndexByte {l : List UInt8} {c r : Int} (h : m_strings_IndexByte l c = some r) : Pure Tryd.prog 15 [HV.str l, HV.int .u8 c] (· = HV.int .i64 r) := by
 cases h
 exact w51 l c
end Go.AW
namespace Go.AW
open Go
section
open Go Go.MapKept
structure IsKv (P : Program) (kt : TypeId) (h : HV) (v : Value) : Prop where
 rep : ∀ w μ x, Rep w μ h x → x = v
 lit : ∃ l, keyOf P kt v = some l
def noIt (id : Nat) (H : Heap) : Prop := ∀ j v mv seen cur, hget H j ≠ some (v, .iter id mv seen cur)
theorem noIt_nil {id : Nat} : noIt id [] := fun _ _ _ _ _ h => by cases h
theorem noIt_cons {id i v : Nat} {o : AObj} {H : Heap} (ho : ∀ mv seen cur, o ≠ .iter id mv seen cur) (h : noIt id H) : noIt id ((i, v, o) :: H) := fun j u mv seen cur hj => by
 simp only [hget] at hj
 split at hj
 ·cases hj; exact ho _ _ _ rfl
 exact h _ _ _ _ _ hj
theorem noIt_arr {id i v k : Nat} {e : TypeId} {cs : List HV} {H : Heap} (h : noIt id H) : noIt id ((i, v, .arr k e cs) :: H) := noIt_cons (fun _ _ _ e => by cases e) h
theorem noIt_km {id i v : Nat} {es : List (Value × Value)} {H : Heap} (h : noIt id H) : noIt id ((i, v, .kmap es) :: H) := noIt_cons (fun _ _ _ e => by cases e) h
section
variable {P : Program} {ro : Option Nat} {N : Nat} {s : AS} {w w' : World} {μ : Mu} {H : Heap}
theorem find_kv {kt : TypeId} (L : Go.Maps.Keyed P kt) (w : World) {kv : Value} (hk : ∃ l, keyOf P kt kv = some l) {ents : Array MapEntry} {es : List (Value × Value)} (he : ents.toList.map (fun x => (x.key, x.val)) = es)
  (hes : ∀ e ∈ es, ∃ l, keyOf P kt e.1 = some l) :
  ((Instr.findKey kt kv ents.toList).run P w = .ok none w ∧ ∀ e ∈ es, e.1 ≠ kv) ∨ ∃ j e, (Instr.findKey kt kv ents.toList).run P w = .ok (some (j, e.val)) w ∧ ents.toList[j]? = some e ∧ e.key = kv ∧ (kv, e.val) ∈ es := by
 obtain ⟨l, hl⟩ := hk
 rcases L.find w hl ents.toList (fun e hm => hes (e.key, e.val) (by rw [← he]; exact List.mem_map.2 ⟨e, hm, rfl⟩)) with ⟨h1, h2⟩ | ⟨j, e, h1, h2, h3⟩
 ·refine .inl ⟨h1, fun e hm => ?_⟩
  rw [← he] at hm
  obtain ⟨x, hx, rfl⟩ := List.mem_map.1 hm
  exact h2 x hx
 refine .inr ⟨j, e, h1, h2, h3, ?_⟩
 rw [← he, ← h3]
 exact List.mem_map.2 ⟨e, List.mem_of_getElem? h2, rfl⟩
theorem AOp.lookupK {o : Oper} {K : AS → Prop} {t kt et : TypeId} {m x : Operand} {id ver : Nat} {hk : HV} {kv : Value} {es : List (Value × Value)} {T Te : TyI} {z : HV} (L : Go.Maps.Keyed P kt) (hop : o.op = .lookup t m x false) (hN : okd N o.dst = true)
  (hT : ty P t = some T) (hTd : T.desc = .map kt et) (hTe : ty P et = some Te) (hz : constHV Te.zero = some z)
  (hm : s.ev m = some (.mp id ver)) (hx : s.ev x = some hk) (hkv : IsKv P kt hk kv) (hg : hget s.heap id = some (ver, .kmap es)) (hes : ∀ e ∈ es, ∃ l, keyOf P kt e.1 = some l)
  (h1 : (∀ e ∈ es, e.1 ≠ kv) → K (s.put o.dst z)) (h2 : ∀ v, (kv, v) ∈ es → ∃ hv, constHV v = some hv ∧ K (s.put o.dst hv)) : AOp P ro N o K s := by
 refine AOp.value (fun c e => by rw [hop] at e; cases e) hN fun B μ a w hs => ?_
 obtain ⟨b, hl, he, ents, clock, hb, hents⟩ := hs.liveMap (hs.ev hm) hg
 have hxe : a.eval x = kv := hkv.rep w μ _ (hs.ev hx)
 have htd : P.underlying t = some (.map kt et) := by rw [← hTd]; exact (ty_spec hT).1
 obtain ⟨l, hl⟩ := hkv.lit
 have hchk := L.check w ents.isEmpty hl
 rcases find_kv L w hkv.lit hents hes with ⟨h3, h4⟩ | ⟨j, e, h3, h4, h5, h6⟩
 ·refine ⟨Te.zero, z, μ, w, s.heap, ?_, hs.sr, Evo.refl w μ, constHV_rep hz, h1 h4⟩
  simp [execOp, hop, hxe, he, Instr.lookup, run_underlying htd, MapKept.run_getObj_map hb, hchk, h3, ty_zero hTe, Result.andThen]
 obtain ⟨hv, hc, hK⟩ := h2 _ h6
 refine ⟨e.val, hv, μ, w, s.heap, ?_, hs.sr, Evo.refl w μ, constHV_rep hc, hK⟩
 simp [execOp, hop, hxe, he, Instr.lookup, run_underlying htd, MapKept.run_getObj_map hb, hchk, h3, Result.andThen]
structure KPut (es es' : List (Value × Value)) (kv v : Value) : Prop where
 old : ∀ e ∈ es', e ∈ es ∨ e = (kv, v)
 new : (kv, v) ∈ es'
 keep : ∀ e ∈ es, e.1 ≠ kv → e ∈ es'
theorem AOp.mapUpdateK {o : Oper} {K : AS → Prop} {t kt et : TypeId} {m x y : Operand} {id ver : Nat} {hk : HV} {kv v : Value} {es : List (Value × Value)} {T : TyI} {hv : HV} (L : Go.Maps.Keyed P kt) (hop : o.op = .mapUpdate t m x y ∨ o.op = .insert t m x y) (hN : okd N o.dst = true)
  (hT : ty P t = some T) (hTd : T.desc = .map kt et)
  (hm : s.ev m = some (.mp id ver)) (hx : s.ev x = some hk) (hkv : IsKv P kt hk kv) (hy : s.ev y = some hv) (hv' : ∀ w μ x, Rep w μ hv x → x = v) (hg : hget s.heap id = some (ver, .kmap es)) (hes : ∀ e ∈ es, ∃ l, keyOf P kt e.1 = some l) (hni : noIt id s.heap)
  (h : ∀ es', KPut es es' kv v → K (({ s with heap := hset s.heap id ver (.kmap es') } : AS).put o.dst (.v undef))) : AOp P ro N o K s := by
 refine AOp.skip (fun c e => by rcases hop with hop | hop <;> (rw [hop] at e; cases e)) hN fun B μ a w hs => ?_
 obtain ⟨b, hl, he, ents, clock, hb, hents⟩ := hs.liveMap (hs.ev hm) hg
 have hxe : a.eval x = kv := hkv.rep w μ _ (hs.ev hx)
 have hye : a.eval y = v := hv' w μ _ (hs.ev hy)
 have htd : P.underlying t = some (.map kt et) := by rw [← hTd]; exact (ty_spec hT).1
 obtain ⟨l, hkl⟩ := hkv.lit
 have hchk := L.check w false hkl
 have hlb : b < w.heap.size := (Array.getElem?_eq_some_iff.1 hb).1
 have done : ∀ (ents' : Array MapEntry) (clock' : Nat), (Instr.mapUpdate t (.map (some b)) kv v).run P w = .ok () { w with heap := w.heap.set! b (.map ents' clock') } →
   KPut es (ents'.toList.map (fun x => (x.key, x.val))) kv v →
   ∃ μ' w' H', (execOp a.eval o).run P w = .ok .skip w' ∧ SR w' μ' H' ∧ Evo w μ w' μ' ∧ K (({ s with heap := H' } : AS).put o.dst (.v undef)) := by
  intro ents' clock' hrun hput
  obtain ⟨h1, h2⟩ := hs.sr.upd (w' := { w with heap := w.heap.set! b (.map ents' clock') }) (o' := .kmap (ents'.toList.map (fun x => (x.key, x.val)))) hg
   (fun cur e hr => by
    obtain ⟨lo, hi, hc, _⟩ := hr
    rw [hb] at hc
    cases hc) hl ⟨rfl, rfl, rfl⟩ (by simp)
   (fun b' hb' => by simp [Array.getElem?_setIfInBounds_ne (fun e => hb' e.symm)])
   (fun E => ⟨ents', clock', by simp [hlb], rfl⟩)
   (fun _ j v mver seen cur l hj => absurd hj (hni j v mver seen cur))
  refine ⟨μ, _, _, ?_, h1, h2, h _ hput⟩
  rcases hop with hop | hop <;> (simp only [execOp, hop, hxe, hye, he, Sem.run_bind, hrun, Result.andThen_ok]; rfl)
 rcases find_kv L w hkv.lit hents hes with ⟨h3, h4⟩ | ⟨j, e, h3, h4, h5, h6⟩
 ·refine done (ents.push { key := kv, val := v, born := clock }) (clock + 1) ?_ ?_
  ·simp [Instr.mapUpdate, run_underlying htd, MapKept.run_getObj_map hb, hchk, h3, run_setObj_map _ hb, Result.andThen]
  subst hents
  refine ⟨fun e he => ?_, ?_, fun e he _ => ?_⟩
  ·simpa using he
  ·simp
  simp only [Array.toList_push, List.map_append, List.map_cons, List.map_nil, List.mem_append]
  exact .inl he
 have hj : ents[j]? = some e := by simpa using h4
 refine done (ents.modify j fun e => { e with key := kv, val := v }) clock ?_ ?_
 ·simp [Instr.mapUpdate, run_underlying htd, MapKept.run_getObj_map hb, hchk, h3, hj, h5, L.stays w hkl, run_setObj_map _ hb, Result.andThen]
 subst hents
 rw [Array.toList_modify, modify_map_set (fun x : MapEntry => (x.key, x.val)) (fun e => { e with key := kv, val := v }) (kv, v) (fun _ => rfl)]
 have hjm : (ents.toList.map (fun x => (x.key, x.val)))[j]? = some (kv, e.val) := by rw [List.getElem?_map, h4, ← h5]; rfl
 have hjl := (List.getElem?_eq_some_iff.1 hjm).1
 refine ⟨fun x hx => ?_, ?_, fun x hx hne => ?_⟩
 ·rcases List.mem_or_eq_of_mem_set hx with h | h
  ·exact .inl h
  exact .inr h
 ·exact List.mem_iff_getElem?.2 ⟨j, by rw [List.getElem?_set_self hjl]⟩
 obtain ⟨i, hi⟩ := List.mem_iff_getElem?.1 hx
 refine List.mem_iff_getElem?.2 ⟨i, ?_⟩
 rw [List.getElem?_set_ne, hi]
 rintro rfl
 rw [hjm] at hi
 cases hi
 exact hne rfl
theorem to_kmap {G : AS → Prop} {sl : List (Nat × HV)} {H : Heap} {id ver : Nat} (hg : hget H id = some (ver, .map [])) (h : G ⟨sl, (id, ver, .kmap []) :: H⟩) : (⟨sl, H⟩ : AS).to G := by
 intro ro N B μ a w hs
 refine ⟨μ, _, h, ⟨hs.size, ⟨hs.sr.ok, fun i v o hi => ?_, fun i x hx => ?_, hs.sr.inj, hs.sr.held⟩, hs.slot, hs.marks, hs.ro⟩, Evo.refl w μ⟩
 ·simp only [hget] at hi
  split at hi
  ·rename_i e
   subst e
   cases hi
   obtain ⟨l, hl, hor⟩ := hs.sr.has i ver _ hg
   refine ⟨l, hl, ?_⟩
   cases l with
   | none => exact hor.elim
   | some b =>
    obtain ⟨ents, clock, h1, h2, _⟩ := hor
    refine ⟨ents, clock, h1, ?_⟩
    have : ents.toList = [] := by simpa using h2
    rw [this]
    rfl
  exact hs.sr.has i v o hi
 obtain ⟨y, hy⟩ := hs.sr.only i x hx
 simp only [hget]
 split
 ·exact ⟨_, rfl⟩
 exact ⟨y, hy⟩
end
section
variable {P : Program} {ro : Option Nat} {N : Nat} {o : Oper} {sl : List (Nat × HV)} {H : Heap} {all : Array Oper} {rest : List Oper} {K : AS → Prop}
theorem b_setK {t kt et : TypeId} {a b : Nat} {z : Value} {m x y : Operand} {id ver : Nat} {hk : HV} {kv v : Value} {es : List (Value × Value)} {hv : HV} (L : Go.Maps.Keyed P kt) (h0 : (o.guard, o.dst, o.op) = (none, none, .mapUpdate t m x y) ∨ (o.guard, o.dst, o.op) = (none, none, .insert t m x y)) (hT : ty P t = some ⟨.map kt et, a, b, z⟩)
  (hm : (⟨sl, H⟩ : AS).ev m = some (.mp id ver)) (hx : (⟨sl, H⟩ : AS).ev x = some hk) (hkv : IsKv P kt hk kv) (hy : (⟨sl, H⟩ : AS).ev y = some hv) (hv' : ∀ w μ x, Rep w μ hv x → x = v) (hg : hget H id = some (ver, .kmap es)) (hes : ∀ e ∈ es, ∃ l, keyOf P kt e.1 = some l) (hni : noIt id H)
  (h : ∀ es', KPut es es' kv v → bops P ro N all rest K ⟨sl, (id, ver, .kmap es') :: H⟩) : bops P ro N all (o :: rest) K ⟨sl, H⟩ := by
 have e1 : o.guard = none := by rcases h0 with h0 | h0 <;> exact (Prod.mk.inj h0).1
 have e2 : o.dst = none := by rcases h0 with h0 | h0 <;> exact (Prod.mk.inj (Prod.mk.inj h0).2).1
 have e3 : o.op = .mapUpdate t m x y ∨ o.op = .insert t m x y := by 
  rcases h0 with h0 | h0
  ·exact .inl (Prod.mk.inj (Prod.mk.inj h0).2).2
  exact .inr (Prod.mk.inj (Prod.mk.inj h0).2).2
 refine b_opX e1 fun hN => AOp.mapUpdateK L e3 hN hT rfl hm hx hkv hy hv' hg hes hni fun es' hp => ?_
 rw [e2]
 exact bops_le (putN_le (s := ⟨sl, H⟩) id ver _ _) (h es' hp)
theorem o_lookK (hN : okd N o.dst = true) {d : Nat} {t kt et : TypeId} {a b : Nat} {z : Value} {m x : Operand} {id ver : Nat} {hk : HV} {kv : Value} {es : List (Value × Value)} {Te : TyI} {zh : HV} (L : Go.Maps.Keyed P kt) (h0 : (o.dst, o.op) = (some d, .lookup t m x false)) (hT : ty P t = some ⟨.map kt et, a, b, z⟩) (hTe : ty P et = some Te) (hz : constHV Te.zero = some zh)
  (hm : (⟨sl, H⟩ : AS).ev m = some (.mp id ver)) (hx : (⟨sl, H⟩ : AS).ev x = some hk) (hkv : IsKv P kt hk kv) (hg : hget H id = some (ver, .kmap es)) (hes : ∀ e ∈ es, ∃ l, keyOf P kt e.1 = some l)
  (h1 : (∀ e ∈ es, e.1 ≠ kv) → bops P ro N all rest K ⟨(d, zh) :: sl, H⟩) (h2 : ∀ v, (kv, v) ∈ es → ∃ hv, constHV v = some hv ∧ bops P ro N all rest K ⟨(d, hv) :: sl, H⟩) : AOp P ro N o (fun s' => bops P ro N all rest K s') ⟨sl, H⟩ := by
 obtain ⟨e2, e3⟩ := Prod.mk.inj h0
 refine AOp.lookupK L e3 hN hT rfl hTe hz hm hx hkv hg hes (fun hn => ?_) (fun v hv => ?_)
 ·rw [e2]; exact bops_le (put_le (s := ⟨sl, H⟩) d _) (h1 hn)
 obtain ⟨hv', hc, hK⟩ := h2 v hv
 exact ⟨hv', hc, by rw [e2]; exact bops_le (put_le (s := ⟨sl, H⟩) d _) hK⟩
end
end
section
open Go Go.MapKept
set_option linter.unusedVariables false
section
variable {K V : Type}
def kcan (kf : K → Value) (vf : V → Value) (e : List (K × V)) : List (Value × Value) := e.map fun x => (kf x.1, vf x.2)
open Classical in
noncomputable def kE (kf : K → Value) (vf : V → Value) (e : List (K × V)) (es : List (Value × Value)) : List (Value × Value) := if ∀ x, x ∈ es ↔ x ∈ kcan kf vf e then es else kcan kf vf e
theorem kE_mem {kf : K → Value} {vf : V → Value} {e : List (K × V)} {es : List (Value × Value)} {x : Value × Value} : x ∈ kE kf vf e es ↔ x ∈ kcan kf vf e := by
 unfold kE
 split
 ·rename_i h; exact h x
 exact Iff.rfl
theorem kE_of {kf : K → Value} {vf : V → Value} {e : List (K × V)} {es : List (Value × Value)} (h : ∀ x, x ∈ es ↔ x ∈ kcan kf vf e) : kE kf vf e es = es := if_pos h
def kget [DecidableEq K] [DecidableEq V] (wf : K → Bool) (k : K) (z : V) (e : List (K × V)) : Option V :=
 if wf k = true ∧ ∀ x ∈ e, wf x.1 = true then match e.filter (fun x => decide (x.1 = k)) with
  | [] => some z
  | y :: l => if ∀ x ∈ l, x.2 = y.2 then some y.2 else none
 else none
def kset [DecidableEq K] [DecidableEq V] (wf : K → Bool) (k : K) (v : V) (e : List (K × V)) : Option (List (K × V)) :=
 if wf k = true ∧ (∀ x ∈ e, wf x.1 = true) ∧ ∀ x ∈ e, x.1 = k → x.2 = v then some (e ++ [(k, v)]) else none
structure KeyT (P : Program) (kt : TypeId) (kh : K → HV) (kf : K → Value) (wf : K → Bool) : Prop where
 law : Go.Maps.Keyed P kt
 inj : ∀ a b, kf a = kf b → a = b
 kv : ∀ k, wf k = true → IsKv P kt (kh k) (kf k)
variable {P : Program} {kt : TypeId} {kh : K → HV} {kf : K → Value} {wf : K → Bool}
theorem KeyT.lits (T : KeyT P kt kh kf wf) {vf : V → Value} {e : List (K × V)} {es : List (Value × Value)} (h : ∀ x ∈ e, wf x.1 = true) : ∀ x ∈ kE kf vf e es, ∃ l, keyOf P kt x.1 = some l := fun x hx => by
 obtain ⟨y, hy, rfl⟩ := List.mem_map.1 (kE_mem.1 hx)
 exact (T.kv _ (h y hy)).lit
variable [DecidableEq K] [DecidableEq V]
theorem kget_spec (T : KeyT P kt kh kf wf) {vf : V → Value} {k : K} {z v : V} {e : List (K × V)} {es : List (Value × Value)} (h : kget wf k z e = some v) :
  wf k = true ∧ (∀ x ∈ e, wf x.1 = true) ∧ ((∀ x ∈ kE kf vf e es, x.1 ≠ kf k) → v = z) ∧ ∀ u, (kf k, u) ∈ kE kf vf e es → u = vf v := by
 unfold kget at h
 split at h
 ·rename_i hc
  refine ⟨hc.1, hc.2, ?_⟩
  split at h
  ·rename_i hf
   cases h
   refine ⟨fun _ => rfl, fun u hu => ?_⟩
   obtain ⟨y, hy, he⟩ := List.mem_map.1 (kE_mem.1 hu)
   cases he' : decide (y.1 = k) with
   | true =>
    have : y ∈ e.filter fun x => decide (x.1 = k) := List.mem_filter.2 ⟨hy, he'⟩
    rw [hf] at this
    cases this
   | false => exact absurd (T.inj _ _ (Prod.mk.inj he).1) (of_decide_eq_false he')
  rename_i y l hf
  split at h
  ·rename_i hl
   cases h
   have hy : y ∈ e ∧ y.1 = k := by
    have : y ∈ e.filter fun x => decide (x.1 = k) := by rw [hf]; exact .head _
    obtain ⟨h1, h2⟩ := List.mem_filter.1 this
    exact ⟨h1, of_decide_eq_true h2⟩
   refine ⟨fun hn => absurd (by rw [hy.2]) (hn (kf y.1, vf y.2) (kE_mem.2 (List.mem_map.2 ⟨y, hy.1, rfl⟩))), fun u hu => ?_⟩
   obtain ⟨x, hx, he⟩ := List.mem_map.1 (kE_mem.1 hu)
   obtain ⟨e1, e2⟩ := Prod.mk.inj he
   have hk := T.inj _ _ e1
   have : x ∈ e.filter fun x => decide (x.1 = k) := List.mem_filter.2 ⟨hx, decide_eq_true hk⟩
   rw [hf] at this
   rcases List.mem_cons.1 this with rfl | hm
   ·exact e2.symm
   rw [← e2, hl x hm]
  cases h
 cases h
theorem kset_spec (T : KeyT P kt kh kf wf) {vf : V → Value} {k : K} {v : V} {e e2 : List (K × V)} {es : List (Value × Value)} (h : kset wf k v e = some e2) :
  wf k = true ∧ (∀ x ∈ e, wf x.1 = true) ∧ ∀ es', KPut (kE kf vf e es) es' (kf k) (vf v) → kE kf vf e2 es' = es' := by
 unfold kset at h
 split at h
 ·rename_i hc
  cases h
  refine ⟨hc.1, hc.2.1, fun es' hp => kE_of fun x => ?_⟩
  unfold kcan
  rw [List.map_append, List.mem_append, List.map_cons, List.map_nil, List.mem_singleton]
  constructor
  ·intro hx
   rcases hp.old x hx with h1 | h1
   ·exact .inl (kE_mem.1 h1)
   exact .inr h1
  rintro (hx | rfl)
  ·by_cases hk : x.1 = kf k
   ·obtain ⟨y, hy, rfl⟩ := List.mem_map.1 hx
    have := hc.2.2 y hy (T.inj _ _ hk)
    simp only at hk
    rw [hk, this]
    exact hp.new
   exact hp.keep x (kE_mem.2 hx) hk
  exact hp.new
 cases h
end
section
variable {P : Program} {ro : Option Nat} {N : Nat} {o : Oper} {sl : List (Nat × HV)} {H : Heap} {all : Array Oper} {rest : List Oper} {Q : AS → Prop}
theorem to_kmapE {K V : Type} (kf : K → Value) (vf : V → Value) {G : AS → Prop} {id ver : Nat} (hg : hget H id = some (ver, .map [])) (h : ∀ es, G ⟨sl, (id, ver, .kmap (kE kf vf [] es)) :: H⟩) : (⟨sl, H⟩ : AS).to G := by
 have e : kE kf vf ([] : List (K × V)) [] = [] := kE_of fun x => Iff.rfl
 refine to_kmap hg ?_
 have := h []
 rwa [e] at this
variable {K V : Type} [DecidableEq K] [DecidableEq V] {kt : TypeId} {kh : K → HV} {kf : K → Value} {wf : K → Bool}
theorem o_klook (hN : okd N o.dst = true) (T : KeyT P kt kh kf wf) (vf : V → Value) (vh : V → HV) (hv : ∀ v, constHV (vf v) = some (vh v)) {k : K} {v z : V} {e : List (K × V)} {es : List (Value × Value)} {d : Nat} {t et : TypeId} {a b : Nat} {z0 : Value} {m x : Operand} {id ver : Nat} {Te : TyI}
  (h0 : (o.dst, o.op) = (some d, .lookup t m x false)) (hT : ty P t = some ⟨.map kt et, a, b, z0⟩) (hTe : ty P et = some Te) (hz : constHV Te.zero = some (vh z))
  (hm : (⟨sl, H⟩ : AS).ev m = some (.mp id ver)) (hx : (⟨sl, H⟩ : AS).ev x = some (kh k)) (hg : hget H id = some (ver, .kmap (kE kf vf e es))) (hk : kget wf k z e = some v)
  (kk : bops P ro N all rest Q ⟨(d, vh v) :: sl, H⟩) : AOp P ro N o (fun s' => bops P ro N all rest Q s') ⟨sl, H⟩ := by
 obtain ⟨h1, h2, h3, h4⟩ := kget_spec T (vf := vf) (es := es) hk
 refine o_lookK hN T.law h0 hT hTe hz hm hx (T.kv k h1) hg (T.lits h2) (fun hn => ?_) (fun u hu => ?_)
 ·rw [h3 hn] at kk; exact kk
 rw [h4 u hu]; exact ⟨_, hv v, kk⟩
theorem b_klook (T : KeyT P kt kh kf wf) (vf : V → Value) (vh : V → HV) (hv : ∀ v, constHV (vf v) = some (vh v)) {k : K} {v z : V} {e : List (K × V)} {es : List (Value × Value)} {d : Nat} {t et : TypeId} {a b : Nat} {z0 : Value} {m x : Operand} {id ver : Nat} {Te : TyI}
  (hgd : o.guard = none) (h0 : (o.dst, o.op) = (some d, .lookup t m x false)) (hT : ty P t = some ⟨.map kt et, a, b, z0⟩) (hTe : ty P et = some Te) (hz : constHV Te.zero = some (vh z))
  (hm : (⟨sl, H⟩ : AS).ev m = some (.mp id ver)) (hx : (⟨sl, H⟩ : AS).ev x = some (kh k)) (hg : hget H id = some (ver, .kmap (kE kf vf e es))) (hk : kget wf k z e = some v)
  (kk : bops P ro N all rest Q ⟨(d, vh v) :: sl, H⟩) : bops P ro N all (o :: rest) Q ⟨sl, H⟩ := b_opX hgd fun hN => o_klook hN T vf vh hv h0 hT hTe hz hm hx hg hk kk
theorem b_kset (T : KeyT P kt kh kf wf) (vf : V → Value) (vh : V → HV) (hv : ∀ v w μ x, Rep w μ (vh v) x → x = vf v) {k : K} {v : V} {e e2 : List (K × V)} {es : List (Value × Value)} {t et : TypeId} {a b : Nat} {z0 : Value} {m x y : Operand} {id ver : Nat}
  (h0 : (o.guard, o.dst, o.op) = (none, none, .mapUpdate t m x y) ∨ (o.guard, o.dst, o.op) = (none, none, .insert t m x y)) (hT : ty P t = some ⟨.map kt et, a, b, z0⟩)
  (hm : (⟨sl, H⟩ : AS).ev m = some (.mp id ver)) (hx : (⟨sl, H⟩ : AS).ev x = some (kh k)) (hy : (⟨sl, H⟩ : AS).ev y = some (vh v)) (hg : hget H id = some (ver, .kmap (kE kf vf e es))) (hk : kset wf k v e = some e2) (hni : noIt id H)
  (kk : ∀ es', bops P ro N all rest Q ⟨sl, (id, ver, .kmap (kE kf vf e2 es')) :: H⟩) : bops P ro N all (o :: rest) Q ⟨sl, H⟩ := by
 obtain ⟨h1, h2, h3⟩ := kset_spec T (vf := vf) (es := es) hk
 refine b_setK T.law h0 hT hm hx (T.kv k h1) hy (hv v) hg (T.lits h2) hni fun es' hp => ?_
 have := kk es'
 rwa [h3 es' hp] at this
end
structure RevI (P : Program) (f : FuncId) : Prop where
 arr : ∀ (H : Heap) (id ver : Nat) (e : TypeId) (l : List Int) (K : HV → Heap → Prop), hget H id = some (ver, .arr 1 e (l.map (.int .i64))) → l.length < 4611686018427387904 → K (.tup []) (hset H id ver (.arr 1 e (l.reverse.map (.int .i64)))) → ACall P f [.ar id ver 1 0 l.length] H K
section
variable {P : Program} {ro : Option Nat} {N : Nat} {o : Oper} {sl : List (Nat × HV)} {H : Heap} {all : Array Oper} {rest : List Oper} {K : AS → Prop}
end
theorem bool_const (v : Bool) : constHV (.bool v) = some (.bool v) := rfl
theorem bool_rep (v : Bool) (w : World) (μ : Mu) (x : Value) (h : Rep w μ (.bool v) x) : x = .bool v := h
def kfInt (n : Int) : Value := .int .i64 n
def wfInt (n : Int) : Bool := (Lit.int .i64 n).wf
end
def wle (a b : List UInt8) : Bool := decide (a.length < b.length) || (decide (a.length = b.length) && decide (a ≤ b))
theorem wle_total (a b : List UInt8) : (wle a b || wle b a) = true := by
 simp only [wle, Bool.or_eq_true, Bool.and_eq_true, decide_eq_true_eq]
 rcases Nat.lt_trichotomy a.length b.length with h | h | h
 ·exact .inl (.inl h)
 ·exact (List.le_total a b).elim (fun x => .inl (.inr ⟨h, x⟩)) fun x => .inr (.inr ⟨h.symm, x⟩)
 exact .inr (.inl h)
theorem wle_trans (a b c : List UInt8) (h1 : wle a b = true) (h2 : wle b c = true) : wle a c = true := by
 simp only [wle, Bool.or_eq_true, Bool.and_eq_true, decide_eq_true_eq] at *
 rcases h1 with h1 | ⟨h1, h1'⟩ <;> rcases h2 with h2 | ⟨h2, h2'⟩
 ·left; omega
 ·left; omega
 ·left; omega
 right; exact ⟨by omega, List.le_trans h1' h2'⟩
theorem wle_antisymm {a b : List UInt8} (h1 : wle a b = true) (h2 : wle b a = true) : a = b := by
 simp only [wle, Bool.or_eq_true, Bool.and_eq_true, decide_eq_true_eq] at *
 rcases h1 with h1 | ⟨h1, h1'⟩ <;> rcases h2 with h2 | ⟨h2, h2'⟩
 ·omega
 ·omega
 ·omega
 exact List.le_antisymm h1' h2'
def sortW (l : List (List UInt8)) : List (List UInt8) := l.mergeSort wle
theorem sortW_perm (l : List (List UInt8)) : (sortW l).Perm l := List.mergeSort_perm l _
theorem sortW_sorted (l : List (List UInt8)) : (sortW l).Pairwise fun a b => wle a b = true := List.pairwise_mergeSort wle_trans wle_total l
theorem sortW_eq {l l' : List (List UInt8)} (h : l.Perm l') (hs : l'.Pairwise fun a b => wle a b = true) : sortW l = l' :=
 List.Perm.eq_of_pairwise (le := fun a b => wle a b = true) (fun _ _ _ _ h1 h2 => wle_antisymm h1 h2) (sortW_sorted l) hs ((sortW_perm l).trans h)
theorem sortW_len (l : List (List UInt8)) : (sortW l).length = l.length := (sortW_perm l).length_eq
structure SortsW (P : Program) (f g : FuncId) : Prop where
 arr : ∀ (H : Heap) (id ver : Nat) (e : TypeId) (l : List (List UInt8)) (K : HV → Heap → Prop), hget H id = some (ver, .arr 1 e (l.map .str)) → l.length < 4611686018427387904 → K (.tup []) (hset H id ver (.arr 1 e ((sortW l).map .str))) → ACall P f [.ar id ver 1 0 l.length, .fn (.func g) [] []] H K
section
variable {P : Program} {ro : Option Nat} {N : Nat} {o : Oper} {sl : List (Nat × HV)} {H : Heap} {all : Array Oper} {rest : List Oper} {K : AS → Prop}
theorem o_sortW {d : Nat} {aa : Array Operand} {ts : Array TypeId} {f : Operand} {g gc : FuncId} {id ver : Nat} {e : TypeId} {l : List (List UInt8)} (hS : SortsW P g gc) (h0 : (o.dst, o.op) = (some d, .call ⟨.value f, aa, ts⟩)) (hf : (⟨sl, H⟩ : AS).ev f = some (.fn (.func g) [] [])) (ha : aa.toList.mapM (⟨sl, H⟩ : AS).ev = some [.ar id ver 1 0 l.length, .fn (.func gc) [] []])
  (hg : hget H id = some (ver, .arr 1 e (l.map .str))) (hl : l.length < 4611686018427387904) (k : bops P ro N all rest K ⟨(d, .tup []) :: sl, (id, ver, .arr 1 e ((sortW l).map .str)) :: H⟩) : aop P 0 [] o (fun s' => bops P ro N all rest K s') ⟨sl, H⟩ := by
 obtain ⟨h1, h2⟩ := Prod.mk.inj h0
 refine op_call h2 hf ha rfl (hS.arr H id ver e l _ hg hl ?_)
 rw [h1]
 exact bops_le (put_le (s := ⟨sl, hset H id ver _⟩) d _) (bops_le (hset_le H id ver _ _) k)
end
def orI (x y : Int) : Int := if x ≠ 0 then x else y
noncomputable def cmpW (a b : List UInt8) : Int := if Op.bytesLess a b then -1 else if (!(Op.bytesLess a b || decide (a = b))) then 1 else 0
theorem bytes_not_le {a b : List UInt8} : ¬ b ≤ a ↔ a < b := by rw [List.not_le]
theorem cmpW_neg (a b : List UInt8) : cmpW a b < 0 ↔ a < b := by
 unfold cmpW
 rw [Proofs.bytesLess_eq]
 by_cases h : a < b
 ·simp [h]
 rw [if_neg (by simpa using h)]
 constructor
 ·intro x; split at x <;> omega
 intro x; exact absurd x h
theorem cmpB_neg : ∀ a b : List UInt8, Lib.compareBytes a b < 0 ↔ a < b
 | [], [] => by simp [Lib.compareBytes]
 | [], _ :: _ => by simp [Lib.compareBytes]
 | _ :: _, [] => by simp [Lib.compareBytes]
 | a :: l, b :: m => by
  unfold Lib.compareBytes
  rw [List.cons_lt_cons_iff]
  by_cases h : a < b
  ·simp [h]
  rw [if_neg h]
  by_cases h2 : b < a
  ·rw [if_pos h2]
   constructor
   ·intro x; omega
   rintro (x | ⟨x, _⟩)
   ·exact absurd x h
   subst x; exact absurd h2 h
  rw [if_neg h2, cmpB_neg l m]
  have : a = b := UInt8.le_antisymm (UInt8.not_lt.1 h2) (UInt8.not_lt.1 h)
  simp [this]
theorem or_neg (a b : List UInt8) {c : Int} (hc : c < 0 ↔ a < b) : orI (Lib.compareInt (a.length : Int) (b.length : Int)) c < 0 ↔ wle b a = false := by
 have key : wle b a = false ↔ (a.length < b.length ∨ a.length = b.length ∧ a < b) := by
  unfold wle
  simp only [Bool.or_eq_false_iff, Bool.and_eq_false_iff, decide_eq_false_iff_not, bytes_not_le]
  constructor
  ·rintro ⟨h1, h2 | h2⟩
   ·exact .inl (by omega)
   rcases Nat.lt_or_ge a.length b.length with h | h
   ·exact .inl h
   exact .inr ⟨by omega, h2⟩
  rintro (h | ⟨h, h2⟩)
  ·exact ⟨by omega, .inl (by omega)⟩
  exact ⟨by omega, .inr h2⟩
 rw [key]
 unfold orI Lib.compareInt
 by_cases h : (a.length : Int) < b.length
 ·rw [if_pos h]
  exact ⟨fun _ => .inl (by omega), fun _ => by simp⟩
 rw [if_neg h]
 by_cases h2 : (b.length : Int) < a.length
 ·rw [if_pos h2]
  refine ⟨fun x => absurd x (by simp), ?_⟩
  rintro (x | ⟨x, _⟩) <;> omega
 rw [if_neg h2, if_neg (by simp), hc]
 constructor
 ·intro x; exact .inr ⟨by omega, x⟩
 rintro (x | ⟨_, x⟩)
 ·omega
 exact x
def tzN (n : Nat) : Nat := ((List.range 12).find? fun k => n.testBit k).getD 0
def m_math_bits_TrailingZeros64 (x : Int) : Option Int := if 0 < x ∧ x < 4096 then some (tzN x.toNat : Int) else none
def tzChk (n : Nat) : Bool := (n &&& (2 ^ 64 - n)) == 2 ^ tzN n && decide (tzN n < 12)
def tzAll (f : Nat → Bool) : Nat → Nat → Bool
 | 0, n => f n
 | d + 1, n => tzAll f d (2 * n) && tzAll f d (2 * n + 1)
theorem tzAll_spec {f : Nat → Bool} : ∀ (d n : Nat), tzAll f d n = true → ∀ m, n * 2 ^ d ≤ m → m < (n + 1) * 2 ^ d → f m = true
 | 0, n, h, m, h1, h2 => by
  have : m = n := by omega
  subst this; exact h
 | d + 1, n, h, m, h1, h2 => by
  simp only [tzAll, Bool.and_eq_true] at h
  rw [Nat.pow_succ] at h1 h2
  rcases Nat.lt_or_ge m ((2 * n + 1) * 2 ^ d) with hm | hm
  ·exact tzAll_spec d (2 * n) h.1 m (by rw [show 2 * n * 2 ^ d = n * (2 ^ d * 2) by rw [Nat.mul_comm 2 n, Nat.mul_assoc, Nat.mul_comm 2]]; exact h1) hm
  exact tzAll_spec d (2 * n + 1) h.2 m hm (by rw [show (2 * n + 1 + 1) * 2 ^ d = (n + 1) * (2 ^ d * 2) by rw [show 2 * n + 1 + 1 = (n + 1) * 2 by omega, Nat.mul_assoc, Nat.mul_comm 2]]; exact h2)
theorem tz_chk {n : Nat} (h0 : 0 < n) (h1 : n < 4096) : (n &&& (2 ^ 64 - n)) = 2 ^ tzN n ∧ tzN n < 12 := by
 have h : tzAll (fun n => n == 0 || tzChk n) 12 0 = true := by decide +kernel
 have := tzAll_spec 12 0 h n (by omega) (by omega)
 simp only [Bool.or_eq_true, beq_iff_eq, tzChk, Bool.and_eq_true, decide_eq_true_eq] at this
 rcases this with h | ⟨h2, h3⟩
 ·omega
 exact ⟨h2, h3⟩
def pcN (n : Nat) : Nat := ((List.range 12).filter fun k => n.testBit k).length
def m_math_bits_OnesCount64 (x : Int) : Option Int := if 0 ≤ x ∧ x < 4096 then some (pcN x.toNat : Int) else none
def m_internal_bytealg_CompareString (a b : List UInt8) : Option Int := some (Lib.compareBytes a b)
def m_slices_Clone_Lstring_string (l : List (List UInt8)) : Option (List (List UInt8)) := if l.length ≤ 1099511627776 then some l else none
abbrev compactS_ (l : List (List UInt8)) : List (List UInt8) := Lib.compact l
theorem compactS_le (l : List (List UInt8)) : (compactS_ l).length ≤ l.length := by
 show (Lib.compactUpTo l.toArray l.length).length ≤ l.length
 unfold Lib.compactUpTo
 rw [List.length_map]
 exact Nat.le_trans (List.length_filter_le _ _) (by simp)
theorem compactS_mem {l : List (List UInt8)} {x : List UInt8} (h : x ∈ compactS_ l) : x ∈ l := by
 have h : x ∈ Lib.compactUpTo l.toArray l.length := h
 unfold Lib.compactUpTo at h
 obtain ⟨j, hj, rfl⟩ := List.mem_map.1 h
 have hj := List.mem_range.1 (List.mem_filter.1 hj).1
 have : l.toArray[j]! = l[j] := by simp [hj]
 rw [this]
 exact List.getElem_mem hj
theorem keepsS_iff (d : Array (List UInt8)) (j : Nat) : Lib.keeps d j = true ↔ j = 0 ∨ d[j]! ≠ d[j - 1]! := by
 simp [Lib.keeps]
set_option linter.unusedVariables false
noncomputable def m_parser_digit (p0 : Int) : Option (Int) :=
 (m_strings_IndexByte [48, 49, 50, 51, 52, 53, 54, 55, 56, 57, 97, 98, 99, 100, 101, 102] p0).bind fun x1 =>
 some x1
section
variable {P : Program} {ro : Option Nat} {N : Nat} {s : AS} {ops : Array Oper} {K : AS → Prop} {F : List Nat → AS → Prop} {L : List Nat}
theorem AOpI.mono {i : Nat} {G G' : AS → Prop} (h : AOpI P ro N ops i G s) (hg : ∀ s', G s' → G' s') : AOpI P ro N ops i G' s := fun w0 μ0 μ a w next Q hs hE hK =>
 h w0 μ0 μ a w next Q hs hE fun μ2 s2 a2 w2 hk hs2 hE2 => hK μ2 s2 a2 w2 (hg s2 hk) hs2 hE2
end
def rid (i : Nat) : Nat := (1000000 + i) * 1000 + 30
theorem hget_hd {id v : Nat} {o : AObj} {H : Heap} : hget ((id, v, o) :: H) id = some (v, o) := by simp [hget]
theorem hget_tl {id j v : Nat} {o : AObj} {H : Heap} (h : id ≠ j) : hget ((j, v, o) :: H) id = hget H id := by simp [hget, h]
abbrev Rws := List (Nat × List Int)
def hdr : Nat → Rws → List HV
 | _, [] => []
 | k, (v, l) :: t => .ar (rid k) v 1 0 l.length :: hdr (k + 1) t
abbrev TLettersPrefixesNextEmit := Int × (List (List UInt8)) × (List (List (Int))) × (List (List (Int)))
abbrev cLettersPrefixesNextEmit (x : TLettersPrefixesNextEmit) : List HV := [HV.int .i64 x.1, slE eStr x.2.1, slE (eSl eInt) x.2.2.1, slE (eSl eInt) x.2.2.2]
noncomputable def stepP (p : TLettersPrefixesNextEmit) (s : Int) (c : UInt8) : Option (Option (Int × Int)) :=
 (m_parser_digit (c.toNat : Int)).bind fun a => (idx p.2.2.1 s).bind fun r => (idx r a).bind fun n => if n < 0 then some none else (idx p.2.2.2 s).bind fun r2 => (idx r2 a).bind fun e => some (some (e, n))
noncomputable def walkP (p : TLettersPrefixesNextEmit) : List UInt8 → Int → Option (List (Int × Int))
 | [], _ => some []
 | c :: w, s => (stepP p s c).bind fun o => match o with
  | none => some []
  | some x => (walkP p w x.2).map (x :: ·)
noncomputable def y_parser_steps (p : TLettersPrefixesNextEmit) (s : Int) (w : List UInt8) : Option (List (Int × Int)) := if w.length < 4611686018427387904 then walkP p w s else none
theorem SR.frzH {w : World} {μ : Mu} {H D H' : Heap} (n : Nat) (h : SR w μ H) (hD : ∀ id x, hget D id = some x → hget H id = some x ∧ hget H' id = none)
  (hs : ∀ id ver o, hget H' id = some (ver, o) → hget H id = some (ver, o) ∨ ∃ k e cs, hget H id = some (ver, .arr k e cs) ∧ o = .arr k e (cs.map (frz n D))) : SR w (μ.cut H') H' where
 ok := fun id ver b hb => h.ok id ver b (Mu.cut_some hb)
 has := fun id ver o ho => by
  rcases hs id ver o ho with h1 | ⟨k, e, cs, h1, rfl⟩
  ·obtain ⟨l, hl, hor⟩ := h.has id ver o h1
   exact ⟨l, by simp [Mu.cut, ho, hl], hor.evo (Evo.cut w μ H') h.ok (fun _ _ => rfl) (fun _ _ _ _ _ _ _ _ => rfl)⟩
  obtain ⟨l, hl, hor⟩ := h.has id ver _ h1
  refine ⟨l, by simp [Mu.cut, ho, hl], ?_⟩
  cases l with
  | none =>
   have : cs = [] := hor
   subst this
   exact (rfl : ([] : List HV).map (frz n D) = [])
  | some b =>
   obtain ⟨h0, cur, vs, rest, hrow, hcl, hrl⟩ := hor
   exact ⟨ones_frz h0, cur, vs, rest, hrow, hcl, RepL.mapF (fun c x _ => frz_rep h hD n c x) hrl⟩
 only := fun id x hx => by
  simp only [Mu.cut] at hx
  split at hx
  ·rename_i hi; exact Option.isSome_iff_exists.1 hi
  cases hx
 inj := fun i j v u b hi hj => h.inj i j v u b (Mu.cut_some hi) (Mu.cut_some hj)
 held := fun b hb => ⟨(h.held b hb).1, fun ⟨id, ver, hl⟩ => (h.held b hb).2 ⟨id, ver, Mu.cut_some hl⟩⟩
def leO (n : Nat) (D : Heap) (l : Heap) : Heap → Prop
 | [] => True
 | (i, v, o) :: l' => (hget l i = some (v, o) ∨ ∃ k e cs, hget l i = some (v, .arr k e cs) ∧ o = .arr k e (cs.map (frz n D))) ∧ leO n D l l'
theorem leO_get {n : Nat} {D l : Heap} : ∀ {l' : Heap}, leO n D l l' → ∀ t v o, hget l' t = some (v, o) → hget l t = some (v, o) ∨ ∃ k e cs, hget l t = some (v, .arr k e cs) ∧ o = .arr k e (cs.map (frz n D))
 | [], _, _, _, _, h => by cases h
 | (i, g, u) :: l', h, t, v, o, ht => by
  simp only [hget] at ht
  split at ht
  ·rename_i e; subst e; cases ht; exact h.1
  exact leO_get h.2 t v o ht
theorem to_fill {s : AS} {G : AS → Prop} (n : Nat) (D : Heap) (s' : AS) (h1 : leF n D s.slots s'.slots) (h2 : leO n D s.heap s'.heap) (h3 : leH s.heap D) (h4 : noneH s'.heap D) (h : G s') : s.to G := by
 intro ro N B μ a w hs
 have hD : ∀ id x, hget D id = some x → hget s.heap id = some x ∧ hget s'.heap id = none := fun id x hx => ⟨leH_get h3 id x hx, noneH_get h4 id x hx⟩
 refine ⟨μ.cut s'.heap, s', h, ⟨hs.size, hs.sr.frzH n hD (leO_get h2), fun t hv ht => ?_, hs.marks.evo (Evo.cut w μ s'.heap), hs.ro.evo (Evo.cut w μ s'.heap)⟩, Evo.cut w μ s'.heap⟩
 obtain ⟨g, hg, rfl⟩ := leF_get h1 t hv ht
 exact ⟨(hs.slot t g hg).1, frz_rep hs.sr hD n g _ (hs.slot t g hg).2⟩
theorem LeL.ones : ∀ {aa bs : List HV} (_ : LeL aa bs), ones aa → ones bs
 | _, _, .nil, h => h
 | _, _, .cons h h', h0 => fun c hc => by
  rcases List.mem_cons.1 hc with rfl | hc
  ·have := h0 _ (List.mem_cons_self ..)
   cases h with
   | refl => exact this
   | nil => rfl
   | empty => rfl
  exact LeL.ones h' (fun d hd => h0 d (List.mem_cons_of_mem _ hd)) c hc
theorem to_cells {s : AS} {G : AS → Prop} (id ver : Nat) {k : Nat} {e : TypeId} {cs ds : List HV} (hg : hget s.heap id = some (ver, .arr k e cs)) (hl : LeL cs ds) (h : G ⟨s.slots, (id, ver, .arr k e ds) :: s.heap⟩) : s.to G := by
 intro ro N B μ a w hs
 have h1 := hs.sr.reobj (o' := .arr k e ds) hg fun l _ hor => by
  cases l with
  | none =>
   have : cs = [] := hor
   subst this
   cases hl
   exact hor
  | some b =>
   obtain ⟨h0, cur, vs, rest, hrow, hcl, hrl⟩ := hor
   exact ⟨hl.ones h0, cur, vs, rest, hrow, hcl, hl.rep hrl⟩
 refine ⟨μ, _, h, ⟨hs.size, h1.le fun j x => ?_, hs.slot, hs.marks, hs.ro⟩, Evo.refl w μ⟩
 simp only [hget, hget_hset]
section
variable {P : Program} {ro : Option Nat} {N : Nat} {all : Array Oper} {s : AS} {rest : List Oper} {o : Oper} {K : AS → Prop} {fid : Nat} {sl : List (Nat × HV)} {H : Heap}
theorem AOps.to {is : List Nat} (h : s.to (AOps P ro N all is K)) : AOps P ro N all is K s := fun w0 μ0 μ a w Q hs hE hK => by
 obtain ⟨μ1, t, ht, hs1, E1⟩ := h ro N w0.heap.size μ a w hs
 exact ht w0 μ0 μ1 a w Q hs1 (hE.trans E1) hK
theorem b_to {l : List Oper} (h : s.to (bops P ro N all l K)) : bops P ro N all l K s := fun hok i hi => AOps.to (to_mono h fun t ht => ht hok i hi)
end
open Go.Proofs
set_option maxHeartbeats 1600000
set_option maxRecDepth 100000
theorem w_parser_digit {p0 : Int} {r : Int} (h : m_parser_digit p0 = some r) : Pure Tryd.prog 40 [.int .u8 p0] (· = hI r) := by
 unfold m_parser_digit at h
 refine Pure.of_body Tryd.func40 rfl rfl (lb rfl) fun hf => ?_
 unfold Tryd.f40
 dsimp only [enumS, Nat.reduceAdd]
 refine AW.rgs rfl fun K hK => mv rfl rfl ?_
 refine bf hK ⟨[(0, .int .u8 p0)], []⟩ ?_
 refine AW.rgs rfl fun K hK => mv rfl rfl ?_
 obtain ⟨x1, h2, h⟩ := bS h
 refine b_op rfl (o_call rfl rfl rfl rfl (ACallD.pure0 (w_strings_IndexByte h2)) ?_)
 refine mv rfl rfl ?_
 refine bf hK ⟨[(2, hI x1)], []⟩ ?_
 obtain rfl := oi h
 exact AW.ret (ret_pure (.inr rfl) (resT rfl rfl) rfl trivial)
end Go.AW

namespace Go.AW
open Go
def YieldsO (P : Program) (f : FuncId) (fs cs : List HV) (sb sv : Nat) (o0 : AObj) (ys : List (List HV)) : Prop :=
 ∀ (id ver : Nat) (H : Heap) (J : Nat → Heap → Prop) (Stop : Heap → Prop) (K : HV → Heap → Prop), (∀ i H H', J i H → (∀ j x, j ≠ sb → hget H j = some x → hget H' j = some x) → J i H') → J 0 H → hget H sb = some (sv, o0) →
  (∀ i y H ob, ys[i]? = some y → J i H → hget H sb = some (sv, ob) → YCall P id ver y H fun r H' => ∃ b, r = .bool b ∧ (b = true → J (i + 1) H' ∧ hget H' sb = some (sv, ob)) ∧ (b = false → Stop H')) →
  (∀ H, J ys.length H → K (.tup []) H) → (∀ H, Stop H → K (.tup []) H) → ACall P f (fs ++ [.yl id ver] ++ cs) H K
section
variable {P : Program} {N : Nat} {Q : Exit → AS → Prop} {s : AS}
theorem AW.rangeYO {S α X R V W : Type} {g : Operand} {ps : Array Tmp} {assign body c : Code} {f : FuncId} {fs cs : List HV} {mb : S → α → Option (Stp S X)} {L : List α} {M : S → Option R} {Mx : X → Option R} {s0 : S} {r : R} {sl : List (Nat × HV)}
  (id sb sv : Nat) (o0 : AObj) (ye : α → List HV) (h : lpO (forL mb L s0) M Mx = some r) (up : Up (Q .normal)) (hg : (⟨sl, []⟩ : AS).ev g = some (.fn (.func f) fs cs)) (hy : YieldsO P f fs cs sb sv o0 (L.map ye))
  (St : S → V → Heap) (v0 : V) (Sx : X → W → Heap) (hno : ∀ a v, hget (St a v) id = none) (hnox : ∀ a v, hget (Sx a v) id = none) (hns : ∀ a v, hget (St a v) sb = none) (hsi : id ≠ sb) (hps : (ps.toList.all fun p => Nat.blt p N) = true) (hpl : ∀ x, ps.size = (ye x).length)
  (kdone : ∀ a v, M a = some r → Q .normal ⟨sl, St a v⟩) (kout : ∀ x w, Mx x = some r → AW P none N c Q ⟨sl, Sx x w⟩)
  (round : ∀ (Lo : LoopState → Option Code → AObj) (l ver : Nat) (ob : AObj) (a : S) (x : α) (v : V) (st : Stp S X), mb a x = some st →
   AW P (some l) N assign (fun e s1 => e = .normal ∧ hget s1.heap id = some (ver, Lo .ready none) ∧
    AW P (some l) N body (rdQ (fun s' => ∃ a' v', some (Stp.next a') = some st ∧ s'.le ⟨[], (id, ver, Lo .busy none) :: (sb, sv, ob) :: St a' v'⟩) (fun s' => ∃ x' w, some (Stp.exit x') = some st ∧ s'.le ⟨[], (id, ver, Lo .busy none) :: Sx x' w⟩) c)
     { s1 with heap := hset s1.heap id ver (Lo .busy none) }) ⟨setPs sl ps.toList (ye x), (id, ver, Lo .ready none) :: (sb, sv, ob) :: St a v⟩) :
  AW P none N (.rangeFunc g ps assign body) Q ⟨sl, (sb, sv, o0) :: St s0 v0⟩ := by
 have hg' : (⟨sl, (sb, sv, o0) :: St s0 v0⟩ : AS).ev g = some (.fn (.func f) fs cs) := by
  cases g <;> exact hg
 refine AW.rangeFunc id hg' fun fn ver => ?_
 obtain ⟨Lo, hLo⟩ : ∃ Lo : LoopState → Option Code → AObj, ∀ st p, Lo st p = .loop st p fn N sl ps assign body := ⟨_, fun _ _ => rfl⟩
 -- what the model comes to from a state on
 let J : Nat → Heap → Prop := fun i H => ∃ a v, lpO (forL mb (L.drop i) a) M Mx = some r ∧ hget H id = some (ver, Lo .ready none) ∧ ∀ j x, hget (St a v) j = some x → hget H j = some x
 let Stop : Heap → Prop := fun H => ∃ x w, Mx x = some r ∧ (hget H id = some (ver, Lo .done (some c))) ∧ ∀ j y, hget (Sx x w) j = some y → hget H j = some y
 refine hy id ver _ J Stop _ (fun i H H' ⟨a, v, h1, h2, h3⟩ hl => ⟨a, v, h1, hl _ _ hsi h2, fun j x hx => hl _ _ (fun e => by rw [e, hns] at hx; cases hx) (h3 j x hx)⟩) ⟨s0, v0, by rw [List.drop_zero]; exact h, by rw [hget_hset, if_pos rfl, hLo], fun j x hx => ?_⟩ ?_ ?_ ?_ ?_
 ·refine hget_le (fun j x hx => ?_) (hno s0 v0) j x hx
  simp only [hget]
  rw [if_neg (fun e => by rw [e, hns] at hx; cases hx)]
  exact hx
 ·rw [hget_hset, if_neg (fun e => hsi e.symm)]
  simp only [hget, if_true]
 ·rintro i y H ob hyi ⟨a, v, hm, hlo, hle⟩ hob
  rw [List.getElem?_map] at hyi
  cases hLi : L[i]? with
  | none => rw [hLi] at hyi; cases hyi
  | some x =>
   rw [hLi] at hyi
   cases hyi
   have hi := (List.getElem?_eq_some_iff.1 hLi).1
   have hx : L.drop i = x :: L.drop (i + 1) := by
    rw [List.drop_eq_getElem_cons hi]
    congr 1
    exact (List.getElem?_eq_some_iff.1 hLi).2
   rw [hx] at hm
   simp only [forL] at hm
   have hmb : ∃ st, mb a x = some st := by
    cases hb : mb a x with
    | none => rw [hb] at hm; cases hm
    | some st => exact ⟨st, rfl⟩
   obtain ⟨st, hst⟩ := hmb
   rw [hst] at hm
   rw [hLo] at hlo
   refine YCall.of hlo (hpl x) (fun p hp => by
    have := List.all_eq_true.1 hps p hp
    exact (Nat.blt_eq ▸ this : _)) fun l => ?_
   have hr := round Lo l ver ob a x v st hst
   refine AW.weaken ?_ (s' := ⟨setPs sl ps.toList (ye x), (id, ver, Lo .ready none) :: (sb, sv, ob) :: St a v⟩) ⟨fun _ _ h => h, fun j z hz => ?_⟩
   ·refine hr.mono ?_
    rintro e s1 ⟨he, h1, h2⟩
    rw [hLo] at h1
    refine ⟨he, h1, ?_⟩
    rw [hLo] at h2
    refine h2.mono ?_
    rintro e s' h
    cases e with
    | normal =>
     obtain ⟨a', v', he', hl⟩ := h
     cases he'
     refine ⟨(hl.2 id _ (by simp only [hget, if_true])), true, rfl, fun _ => ⟨⟨a', v', hm, (by rw [hget_hset, if_pos rfl, hLo]), ?_⟩, ?_⟩, fun e => (by cases e)⟩
     ·refine hget_le (fun j z hz => hl.2 j z ?_) (hno a' v')
      simp only [hget]
      rw [if_neg (fun e => by rw [e, hno] at hz; cases hz), if_neg (fun e => by rw [e, hns] at hz; cases hz)]
      exact hz
     rw [hget_hset, if_neg (fun e => hsi e.symm)]
     refine hl.2 sb _ ?_
     simp [hget, hsi, Ne.symm hsi]
    | ret =>
     obtain ⟨hc, x', w, he', hl⟩ := h
     cases he'
     refine ⟨(hl.2 id _ (by simp only [hget, if_true])), false, rfl, fun e => (by cases e), fun _ => ⟨x', w, hm, (by rw [hget_hset, if_pos rfl, hLo, hc]), ?_⟩⟩
     refine hget_le (fun j z hz => hl.2 j z ?_) (hnox x' w)
     simp only [hget]
     rw [if_neg (fun e => by rw [e, hnox] at hz; cases hz)]
     exact hz
    | exit i' =>
     obtain ⟨hc, x', w, he', hl⟩ := h
     cases he'
     refine ⟨(hl.2 id _ (by simp only [hget, if_true])), false, rfl, fun e => (by cases e), fun _ => ⟨x', w, hm, (by rw [hget_hset, if_pos rfl, hLo, hc]), ?_⟩⟩
     refine hget_le (fun j z hz => hl.2 j z ?_) (hnox x' w)
     simp only [hget]
     rw [if_neg (fun e => by rw [e, hnox] at hz; cases hz)]
     exact hz
    | goto l => exact h.elim
    | panic ch => exact h.elim
    | outgrown => exact h.elim
   simp only [hget] at hz
   split at hz
   ·rename_i e
    subst e
    cases hz
    rw [hLo]; exact hlo
   split at hz
   ·rename_i e
    subst e
    cases hz
    exact hob
   exact hle j z hz
 ·rintro H ⟨a, v, hm, hlo, hle⟩
  rw [List.length_map, List.drop_length] at hm
  refine ⟨.ready, none, by rw [← hLo]; exact hlo, by simp, ?_⟩
  refine up _ (to_le (s' := ⟨sl, St a v⟩) ⟨fun _ _ h => h, ?_⟩ (kdone a v hm))
  exact hget_le hle (hno a v)
 rintro H ⟨x, w, hm, hlo, hle⟩
 refine ⟨.done, some c, by rw [← hLo]; exact hlo, by simp, ?_⟩
 refine AW.weaken (kout x w hm) ⟨fun _ _ h => h, ?_⟩
 exact hget_le hle (hnox x w)
end
open Go.Proofs
set_option linter.unusedVariables false
theorem le_slY {l l' : List (Nat × HV)} {H : Heap} (h : leS l l') : (⟨l, H⟩ : AS).le ⟨l', H⟩ := ⟨leS_get h, fun _ _ h => h⟩
set_option maxHeartbeats 4000000 in
set_option maxRecDepth 100000 in
theorem iy_parser_steps {p : TLettersPrefixesNextEmit} {s : Int} {w : List UInt8} {L : List (Int × Int)} (sb sv : Nat) (h : y_parser_steps p s w = some L) : YieldsO Tryd.prog 39 [] [.fptr [.str w] 0, .fptr (cLettersPrefixesNextEmit p) 0, .ptr sb sv 0] sb sv (.arr 1 3 [hI s]) (L.map fun x => [hI x.1, hI x.2]) := by
  unfold y_parser_steps at h
  split at h
  case isFalse => cases h
  rename_i hwl
  intro id ver H J Stop K hmn h0 hsb hstep hdone hstop
  refine ACall.of_body Tryd.func39 rfl rfl (lb rfl) ?_
  unfold Tryd.f39
  dsimp only [enumS, Nat.reduceAdd]
  generalize hFP : HV.fptr (cLettersPrefixesNextEmit p) 0 = FP
  generalize hFW : HV.fptr [.str w] 0 = FW
  refine AW.rgs rfl fun K1 hK => ?_
  refine bv rfl (v_loadF ty9 (by rw [← hFW]; rfl) (l_lit rfl rfl)) (bv rfl (v_lenS rfl rfl ty9 rfl) (mv rfl rfl ?_))
  refine b_nil (hK _ (AW.to (to_le (s' := ⟨[(0, .yl id ver), (1, FW), (2, FP), (3, .ptr sb sv 0), (9, .int .i64 (w.length : Int)), (10, .int .i64 0)], H⟩) (le_slY ⟨rfl, rfl, rfl, rfl, rfl, rfl, trivial⟩) ?_)))
  clear hK K1
  refine AW.block ?_
  refine AW.loopS (fun q : Nat × Int × Heap => ⟨[(0, .yl id ver), (1, FW), (2, FP), (3, .ptr sb sv 0), (9, .int .i64 (w.length : Int)), (10, .int .i64 (q.1 : Int))], q.2.2⟩)
    (fun q => q.1 ≤ w.length ∧ walkP p (w.drop q.1) q.2.1 = some (L.drop q.1) ∧ J q.1 q.2.2 ∧ hget q.2.2 sb = some (sv, .arr 1 3 [hI q.2.1]) ∧ q.1 ≤ L.length) (fun q => w.length - q.1) (0, s, H) (AS.le_refl _) ⟨Nat.zero_le _, by rw [List.drop_zero, List.drop_zero]; exact h, h0, hsb, Nat.zero_le _⟩ ?_
  clear h0 hsb h H s
  rintro ⟨i, s, H⟩ ⟨hi, h, hj, hsb, hiL⟩
  dsimp only at hi h hj hsb hiL ⊢
  have hnxt : IntKind.wrap .i64 ((i : Int) + 1) = ((i + 1 : Nat) : Int) := by rw [w64 (by omega) (by omega)]; omega
  refine AW.rgs rfl fun K1 hK => ?_
  refine bv rfl (v_bin rfl rfl b_lss) ?_
  refine b_nil (hK _ (AW.to (to_le (s' := ⟨[(0, .yl id ver), (1, FW), (2, FP), (3, .ptr sb sv 0), (9, .int .i64 (w.length : Int)), (10, .int .i64 (i : Int)), (11, .bool (decide ((i : Int) < (w.length : Int))))], H⟩) (le_slY ⟨rfl, rfl, rfl, rfl, rfl, rfl, rfl, trivial⟩) ?_)))
  clear hK K1
  refine AW.cseq rfl (fun hc => ?_) (fun hc => ?_)
  · have hc := of_decide_eq_true hc
    have hil : i < w.length := by omega
    have hix : idx w (i : Int) = some w[i] := by rw [idx_nat, List.getElem?_eq_getElem hil]
    rw [List.drop_eq_getElem_cons hil] at h
    generalize w[i] = c at hix h
    simp only [walkP] at h
    obtain ⟨o, ho, h⟩ := Option.bind_eq_some_iff.1 h
    unfold stepP at ho
    obtain ⟨a, ha, ho⟩ := Option.bind_eq_some_iff.1 ho
    obtain ⟨r, hr, ho⟩ := Option.bind_eq_some_iff.1 ho
    obtain ⟨n, hn, ho⟩ := Option.bind_eq_some_iff.1 ho
    refine AW.skip ?_
    refine AW.seq (AW.block ?_)
    refine AW.rgs rfl fun K1 hK => ?_
    refine mv rfl rfl (mv rfl rfl ?_)
    refine b_nil (hK _ (AW.to (to_le (s' := ⟨[(0, .yl id ver), (1, FW), (2, FP), (3, .ptr sb sv 0), (5, .int .i64 (i : Int)), (9, .int .i64 (w.length : Int)), (10, .int .i64 (i : Int))], H⟩) (le_slY ⟨rfl, rfl, rfl, rfl, rfl, rfl, rfl, trivial⟩) ?_)))
    clear hK K1
    refine AW.rgs rfl fun K1 hK => ?_
    refine bv rfl (v_loadF ty9 (by rw [← hFW]; rfl) (l_lit rfl rfl)) (mv rfl rfl (bv rfl (v_idxS ty9 rfl rfl hix) ?_))
    refine b_op rfl (o_call rfl rfl rfl rfl (ACallD.pure0 (w_parser_digit ha)) ?_)
    refine mv rfl rfl ?_
    refine b_nil (hK _ (AW.to (to_le (s' := ⟨[(0, .yl id ver), (1, FW), (2, FP), (3, .ptr sb sv 0), (6, .int .i64 a), (9, .int .i64 (w.length : Int)), (10, .int .i64 (i : Int))], H⟩) (le_slY ⟨rfl, rfl, rfl, rfl, rfl, rfl, rfl, trivial⟩) ?_)))
    clear hK K1
    refine AW.seq ?_
    refine AW.rgs rfl fun K1 hK => ?_
    refine bv rfl (v_fieldAddrF fo27_2 (by rw [← hFP]; rfl)) (bv rfl (v_loadF ty25 rfl (l_lit rfl rfl)) (bv rfl (v_loadP ty3 rfl hsb (l_lit rfl rfl)) (bv rfl (v_idxF ty25 es25 rfl rfl (idx_lt hr)) (bv rfl (v_loadF ty39 rfl (l_cell (eSl eInt) hr (o := 0) rfl rfl)) (mv rfl rfl ?_)))))
    refine bv rfl (v_idxF ty39 es39 rfl rfl (idx_lt hn)) (bv rfl (v_loadF ty3 rfl (l_cell eInt hn (o := 0) rfl rfl)) (bv rfl (v_bin rfl rfl b_lss) ?_))
    refine b_nil (hK _ (AW.to (to_le (s' := ⟨[(0, .yl id ver), (1, FW), (2, FP), (3, .ptr sb sv 0), (6, .int .i64 a), (9, .int .i64 (w.length : Int)), (10, .int .i64 (i : Int)), (25, .bool (decide (n < 0)))], H⟩) (le_slY ⟨rfl, rfl, rfl, rfl, rfl, rfl, rfl, rfl, trivial⟩) ?_)))
    clear hK K1
    refine AW.cond rfl (fun hc => ?_) (fun hc => ?_)
    · have hc := of_decide_eq_true hc
      rw [if_pos hc] at ho
      cases ho
      simp only [Option.some.injEq] at h
      have hLi : L.length = i := by have := congrArg List.length h; simp at this; omega
      refine AW.ret ⟨.inr rfl, ?_⟩
      simp only [go_sem, reduceIte, Nat.reduceEqDiff]
      exact ⟨_, _, Conv.refl _ _, hdone _ (by rw [List.length_map, hLi]; exact hj)⟩
    have hc := of_decide_eq_false hc
    rw [if_neg hc] at ho
    obtain ⟨r2, hr2, ho⟩ := Option.bind_eq_some_iff.1 ho
    obtain ⟨e, he, ho⟩ := Option.bind_eq_some_iff.1 ho
    cases ho
    simp only at h
    obtain ⟨L2, hL2, h⟩ := Option.map_eq_some_iff.1 h
    have hiL2 : i < L.length := by
      have := congrArg List.length h
      rw [List.length_drop, List.length_cons] at this
      omega
    rw [List.drop_eq_getElem_cons hiL2] at h
    obtain ⟨hx, hL3⟩ := List.cons.inj h
    refine AW.skip ?_
    refine AW.rgs rfl fun K1 hK => ?_
    refine bv rfl (v_fieldAddrF fo27_3 (by rw [← hFP]; rfl)) (bv rfl (v_loadF ty25 rfl (l_lit rfl rfl)) (bv rfl (v_loadP ty3 rfl hsb (l_lit rfl rfl)) (bv rfl (v_idxF ty25 es25 rfl rfl (idx_lt hr2)) (bv rfl (v_loadF ty39 rfl (l_cell (eSl eInt) hr2 (o := 0) rfl rfl)) (mv rfl rfl ?_)))))
    refine bv rfl (v_idxF ty39 es39 rfl rfl (idx_lt he)) (bv rfl (v_loadF ty3 rfl (l_cell eInt he (o := 0) rfl rfl)) (mv rfl rfl ?_))
    refine b_nil (hK _ (AW.to (to_le (s' := ⟨[(0, .yl id ver), (1, FW), (2, FP), (3, .ptr sb sv 0), (6, .int .i64 a), (7, .int .i64 e), (9, .int .i64 (w.length : Int)), (10, .int .i64 (i : Int))], H⟩) (le_slY ⟨rfl, rfl, rfl, rfl, rfl, rfl, rfl, rfl, trivial⟩) ?_)))
    clear hK K1
    refine AW.rgs rfl fun K1 hK => ?_
    refine bv rfl (v_fieldAddrF fo27_2 (by rw [← hFP]; rfl)) (bv rfl (v_loadF ty25 rfl (l_lit rfl rfl)) (bv rfl (v_loadP ty3 rfl hsb (l_lit rfl rfl)) (bv rfl (v_idxF ty25 es25 rfl rfl (idx_lt hr)) (bv rfl (v_loadF ty39 rfl (l_cell (eSl eInt) hr (o := 0) rfl rfl)) (mv rfl rfl ?_)))))
    refine bv rfl (v_idxF ty39 es39 rfl rfl (idx_lt hn)) (bv rfl (v_loadF ty3 rfl (l_cell eInt hn (o := 0) rfl rfl)) ?_)
    refine b_op rfl (o_store (cs := [hI n]) (zs := [hI n]) rfl rfl rfl ty3 rfl hsb rfl rfl rfl ?_)
    have hj2 : J i ((sb, sv, .arr 1 3 [hI n]) :: H) := hmn _ _ _ hj fun j x hne hx => by rw [hget_tl hne]; exact hx
    have hsb2 : hget ((sb, sv, .arr 1 3 [hI n]) :: H) sb = some (sv, .arr 1 3 [hI n]) := hget_hd
    generalize (sb, sv, AObj.arr 1 3 [hI n]) :: H = H2 at hj2 hsb2
    refine b_nil (hK _ (AW.to (to_le (s' := ⟨[(0, .yl id ver), (1, FW), (2, FP), (3, .ptr sb sv 0), (7, .int .i64 e), (9, .int .i64 (w.length : Int)), (10, .int .i64 (i : Int))], H2⟩) (le_slY ⟨rfl, rfl, rfl, rfl, rfl, rfl, rfl, trivial⟩) ?_)))
    clear hK K1
    refine AW.rgs rfl fun K1 hK => ?_
    refine mv rfl rfl (mv rfl rfl (bv rfl (v_loadP ty3 rfl hsb2 (l_lit rfl rfl)) ?_))
    refine b_op rfl (o_yield (hs := [hI e, hI n]) rfl rfl rfl ?_)
    refine (hstep i [hI e, hI n] H2 _ ?_ hj2 hsb2).mono ?_
    · rw [List.getElem?_map, List.getElem?_eq_getElem hiL2, ← hx]
      rfl
    rintro r' H3 ⟨b, rfl, h3, h4⟩
    refine bv rfl (v_not rfl) ?_
    refine b_nil (hK _ (AW.to (to_le (s' := ⟨[(0, .yl id ver), (1, FW), (2, FP), (3, .ptr sb sv 0), (9, .int .i64 (w.length : Int)), (10, .int .i64 (i : Int)), (46, .bool (!b))], H3⟩) (le_slY ⟨rfl, rfl, rfl, rfl, rfl, rfl, rfl, trivial⟩) ?_)))
    clear hK K1
    refine AW.cond rfl (fun hc => ?_) (fun hc => ?_)
    · have hb : b = false := by simpa using hc
      refine AW.ret ⟨.inr rfl, ?_⟩
      simp only [go_sem, reduceIte, Nat.reduceEqDiff]
      exact ⟨_, _, Conv.refl _ _, hstop _ (h4 hb)⟩
    have hb : b = true := by simpa using hc
    obtain ⟨h5, h6⟩ := h3 hb
    refine AW.skip ?_
    refine AW.rg rfl fun K1 hK => ?_
    refine bv rfl (v_bin rfl rfl b_add) ?_
    rw [hnxt]
    refine mv rfl rfl ?_
    refine b_nil (hK _ ?_)
    clear hK K1
    refine ⟨(i + 1, n, H3), ⟨by omega, ?_, h5, h6, by omega⟩, by omega, le_slY ⟨rfl, rfl, rfl, rfl, rfl, rfl, trivial⟩⟩
    rw [hL2, hL3]
  have hc := of_decide_eq_false hc
  have hge : i = w.length := by omega
  have hLi : L.length = i := by
    subst hge
    rw [List.drop_length] at h
    have := congrArg List.length (Option.some.inj h)
    simp only [List.length_nil, List.length_drop] at this
    omega
  refine AW.exit ?_
  refine ⟨.inl rfl, ?_⟩
  simp only [go_sem, reduceIte, Nat.reduceEqDiff]
  exact ⟨_, _, Conv.refl _ _, hdone _ (by rw [List.length_map, hLi]; exact hj)⟩
end Go.AW
namespace Go.Proofs
open Go
def Tryd.sortF_ren : Go.Shelf.Ren := ⟨fun | 6 => 45 | 15 => 62 | 14 => 61 | 28 => 81 | 29 => 82 | 20 => 73 | 21 => 74 | 22 => 75 | 23 => 76 | 24 => 77 | 25 => 78 | 26 => 79 | 27 => 80 | 46 => 86 | 47 => 87 | 48 => 88 | 49 => 89 | 50 => 90 | 57 => 91 | n => n, fun | 22 => 22 | 24 => 9 | 25 => 84 | 3 => 3 | 39 => 77 | 0 => 0 | 53 => 95 | 55 => 97 | 4 => 4 | 46 => 111 | 45 => 110 | 50 => 88 | 5 => 5 | 9 => 9 | 66 => 119 | 70 => 123 | 76 => 125 | 77 => 126 | n => n, fun | n => n⟩
theorem Tryd.sortF : Go.Proofs.SlLaysF.n6 Tryd.prog Tryd.sortF_ren where
 mixed := by kernel_rfl
 f6 := ⟨"slices.SortFunc[[]string,string]", by decide, Tryd.func45.trans (congrArg some (by kernel_rfl))⟩
 f14 := ⟨"slices.pdqsortCmpFunc[string]", by decide, Tryd.func61.trans (congrArg some (by kernel_rfl))⟩
 f15 := Tryd.func62.trans (congrArg some (by kernel_rfl))
 f20 := ⟨"slices.insertionSortCmpFunc[string]", by decide, Tryd.func73.trans (congrArg some (by kernel_rfl))⟩
 f21 := ⟨"slices.heapSortCmpFunc[string]", by decide, Tryd.func74.trans (congrArg some (by kernel_rfl))⟩
 f22 := ⟨"slices.breakPatternsCmpFunc[string]", by decide, Tryd.func75.trans (congrArg some (by kernel_rfl))⟩
 f23 := ⟨"slices.choosePivotCmpFunc[string]", by decide, Tryd.func76.trans (congrArg some (by kernel_rfl))⟩
 f24 := ⟨"slices.reverseRangeCmpFunc[string]", by decide, Tryd.func77.trans (congrArg some (by kernel_rfl))⟩
 f25 := ⟨"slices.partialInsertionSortCmpFunc[string]", by decide, Tryd.func78.trans (congrArg some (by kernel_rfl))⟩
 f26 := ⟨"slices.partitionEqualCmpFunc[string]", by decide, Tryd.func79.trans (congrArg some (by kernel_rfl))⟩
 f27 := ⟨"slices.partitionCmpFunc[string]", by decide, Tryd.func80.trans (congrArg some (by kernel_rfl))⟩
 f28 := Tryd.func81.trans (congrArg some (by kernel_rfl))
 f29 := Tryd.func82.trans (congrArg some (by kernel_rfl))
 f46 := ⟨"slices.siftDownCmpFunc[string]", by decide, Tryd.func86.trans (congrArg some (by kernel_rfl))⟩
 f47 := Tryd.func87.trans (congrArg some (by kernel_rfl))
 f48 := Tryd.func88.trans (congrArg some (by kernel_rfl))
 f49 := ⟨"slices.medianAdjacentCmpFunc[string]", by decide, Tryd.func89.trans (congrArg some (by kernel_rfl))⟩
 f50 := ⟨"slices.medianCmpFunc[string]", by decide, Tryd.func90.trans (congrArg some (by kernel_rfl))⟩
 f57 := ⟨"slices.order2CmpFunc[string]", by decide, Tryd.func91.trans (congrArg some (by kernel_rfl))⟩
 t0 := Tryd.underlying0
 a0 := Tryd.isAgg0
 z0 := Tryd.sizeOf0
 v0 := Tryd.zeroValue0
 t3 := Tryd.underlying3
 a3 := Tryd.isAgg3
 z3 := Tryd.sizeOf3
 v3 := Tryd.zeroValue3
 t4 := Tryd.underlying4
 a4 := Tryd.isAgg4
 z4 := Tryd.sizeOf4
 v4 := Tryd.zeroValue4
 t5 := Tryd.underlying5
 a5 := Tryd.isAgg5
 z5 := Tryd.sizeOf5
 v5 := Tryd.zeroValue5
 t9 := Tryd.underlying9
 a9 := Tryd.isAgg9
 z9 := Tryd.sizeOf9
 v9 := Tryd.zeroValue9
 t22 := Tryd.underlying22
 a22 := Tryd.isAgg22
 z22 := Tryd.sizeOf22
 v22 := Tryd.zeroValue22
 a24 := Tryd.isAgg9
 z24 := Tryd.sizeOf9
 t25 := Tryd.underlying84
 a25 := Tryd.isAgg84
 z25 := Tryd.sizeOf84
 v25 := Tryd.zeroValue84
 t39 := Tryd.underlying77
 a39 := Tryd.isAgg77
 z39 := Tryd.sizeOf77
 v39 := Tryd.zeroValue77
 t45 := Tryd.underlying110
 a45 := Tryd.isAgg110
 z45 := Tryd.sizeOf110
 v45 := Tryd.zeroValue110
 t46 := Tryd.underlying111
 a46 := Tryd.isAgg111
 z46 := Tryd.sizeOf111
 v46 := Tryd.zeroValue111
 t50 := Tryd.underlying88
 a50 := Tryd.isAgg88
 z50 := Tryd.sizeOf88
 v50 := Tryd.zeroValue88
 t53 := Tryd.underlying95
 a53 := Tryd.isAgg95
 z53 := Tryd.sizeOf95
 v53 := Tryd.zeroValue95
 t55 := Tryd.underlying97
 a55 := Tryd.isAgg97
 z55 := Tryd.sizeOf97
 v55 := Tryd.zeroValue97
 t66 := Tryd.underlying119
 a66 := Tryd.isAgg119
 z66 := Tryd.sizeOf119
 v66 := Tryd.zeroValue119
 t70 := Tryd.underlying123
 a70 := Tryd.isAgg123
 z70 := Tryd.sizeOf123
 v70 := Tryd.zeroValue123
 t76 := Tryd.underlying125
 a76 := Tryd.isAgg125
 z76 := Tryd.sizeOf125
 v76 := Tryd.zeroValue125
 t77 := Tryd.underlying126
 a77 := Tryd.isAgg126
 z77 := Tryd.sizeOf126
 v77 := Tryd.zeroValue126
end Go.Proofs
namespace Go.AW
open Go
section
open Go Go.Proofs Go.Sort
theorem q63 (x : Int) (w : World) : Calls Tryd.prog 63 #[.int .i64 x] w fun e w' => e = .returned (.bool false) ∧ w' = w := by
 go_enter Tryd.func63, Tryd.ntmps63
 go_wp2
 all_goals (go_ret; exact ⟨rfl, rfl⟩)
theorem q64 (x : ByteArray) (w : World) : Calls Tryd.prog 64 #[.string x] w fun e w' => e = .returned (.bool false) ∧ w' = w := by
 go_enter Tryd.func64, Tryd.ntmps64
 go_wp2
 all_goals (go_ret; exact ⟨rfl, rfl⟩)
theorem q48 (x y : Int) (w : World) : Calls Tryd.prog 48 #[.int .i64 x, .int .i64 y] w fun e w' => e = .returned (.int .i64 (Lib.compareInt x y)) ∧ w' = w := by
 go_enter Tryd.func48, Tryd.ntmps48
 go_wp2_with (go_at_call 63; refine (q63 _ _).mono ?_; rintro e w' ⟨rfl, rfl⟩)
 all_goals (go_ret; refine ⟨?_, rfl⟩; unfold Lib.compareInt; (repeat' split) <;> first | rfl | (exfalso; omega))
theorem q49 (x y : ByteArray) (w : World) : Calls Tryd.prog 49 #[.string x, .string y] w fun e w' => e = .returned (.int .i64 (cmpW x.data.toList y.data.toList)) ∧ w' = w := by
 go_enter Tryd.func49, Tryd.ntmps49
 go_wp2_with (go_at_call 64; refine (q64 _ _).mono ?_; rintro e w' ⟨rfl, rfl⟩)
 ·rename_i h
  rw [Lib.toList_data, Lib.toList_data] at h
  go_ret
  refine ⟨?_, rfl⟩
  rw [show cmpW x.data.toList y.data.toList = -1 by unfold cmpW; rw [if_pos h]]
  rfl
 ·rename_i h _ _ h2
  rw [Lib.toList_data, Lib.toList_data] at h h2
  go_ret
  refine ⟨?_, rfl⟩
  rw [show cmpW x.data.toList y.data.toList = 1 by
   unfold cmpW
   rw [if_neg (by rw [h]; decide), if_pos (by rw [h]; simpa using h2)]]
  rfl
 rename_i h h2
 rw [Lib.toList_data, Lib.toList_data] at h h2
 go_ret
 refine ⟨?_, rfl⟩
 rw [show cmpW x.data.toList y.data.toList = 0 by
  unfold cmpW
  rw [if_neg (by rw [h]; decide), if_neg (by rw [h]; simpa using h2)]]
 rfl
theorem q71 (a b : ByteArray) (w : World) : Calls Tryd.prog 71 #[.string a, .string b] w fun e w' => e = .returned (.int .i64 (Lib.compareBytes a.data.toList b.data.toList)) ∧ w' = w := by
 go_enter Tryd.func71, Tryd.ntmps71
 go_wp2
 rw [run_callFunc_extern Tryd.func85 (by kernel_rfl) (by kernel_rfl) (by kernel_rfl) (e := Extern.BytealgCompare.compare) (by kernel_rfl), Lib.run_compareString]
 simp only [Result.andThen]
 rw [Oper.upon_value]
 go_wp2
 go_ret
 exact ⟨rfl, rfl⟩
theorem q58 (a b : ByteArray) (w : World) : Calls Tryd.prog 58 #[.string a, .string b] w fun e w' => e = .returned (.int .i64 (Lib.compareBytes a.data.toList b.data.toList)) ∧ w' = w := by
 go_enter Tryd.func58, Tryd.ntmps58
 go_wp2_with (go_at_call 71; refine (q71 _ _ _).mono ?_; rintro e w' ⟨rfl, rfl⟩)
 go_ret
 exact ⟨rfl, rfl⟩
theorem q47 (x y : Int) (b off c : Nat) (w : World) (h1 : w.cell? ⟨b, off, none⟩ = some (.int .i64 x)) (h2 : w.cell? ⟨b, off + 1, none⟩ = some (.int .i64 y)) : Calls Tryd.prog 47 #[.slice (some ⟨b, off, none⟩) 2 c] w fun e w' => e = .returned (.int .i64 (orI x y)) ∧ w' = w := by
 go_enter Tryd.func47, Tryd.ntmps47
 go_wp2
 refine wp_loop_rounds 3 ?_
 rw [rounds_succ]
 go_wp2
 ·rename_i h
  go_ret
  refine ⟨?_, rfl⟩
  rw [show orI x y = x from if_pos (by simpa using h)]
  rfl
 rename_i h
 rw [rounds_succ]
 go_wp2
 ·rename_i h2
  go_ret
  refine ⟨?_, rfl⟩
  rw [show orI x y = y from if_neg (by simpa using h)]
  rfl
 rename_i h2
 rw [rounds_succ]
 go_wp2
 go_ret
 refine ⟨?_, rfl⟩
 rw [show orI x y = 0 by rw [show orI x y = y from if_neg (by simpa using h)]; simpa using h2]
 rfl
theorem q43 (x y : ByteArray) (w : World) : Calls Tryd.prog 43 #[.string x, .string y] w fun e w' => e = .returned (.int .i64 (orI (Lib.compareInt x.size y.size) (Lib.compareBytes x.data.toList y.data.toList))) ∧ ∃ q os', w' = grow (w.drewN q) os' := by
 go_enter Tryd.func43, Tryd.ntmps43
 go_wp2_with (first | (go_at_call 48; refine (q48 _ _ _).mono ?_; rintro e w' ⟨rfl, rfl⟩) | (go_at_call 58; refine (q58 _ _ _).mono ?_; rintro e w' ⟨rfl, rfl⟩))
 refine (q47 _ _ _ _ _ _ ((World.cell?_alloc_new _ _ _ 0).trans rfl) ((World.cell?_alloc_new _ _ _ 1).trans rfl)).mono ?_
 rintro e w' ⟨rfl, rfl⟩
 go_wp2
 go_ret
 exact ⟨rfl, 0, _, alloc_eq_grow _ _⟩
theorem q46 (x y : ByteArray) (w : World) : Calls Tryd.prog 46 #[.string x, .string y] w fun e w' => e = .returned (.int .i64 (orI (Lib.compareInt x.size y.size) (cmpW x.data.toList y.data.toList))) ∧ ∃ q os', w' = grow (w.drewN q) os' := by
 go_enter Tryd.func46, Tryd.ntmps46
 go_wp2_with (first | (go_at_call 48; refine (q48 _ _ _).mono ?_; rintro e w' ⟨rfl, rfl⟩) | (go_at_call 49; refine (q49 _ _ _).mono ?_; rintro e w' ⟨rfl, rfl⟩))
 refine (q47 _ _ _ _ _ _ ((World.cell?_alloc_new _ _ _ 0).trans rfl) ((World.cell?_alloc_new _ _ _ 1).trans rfl)).mono ?_
 rintro e w' ⟨rfl, rfl⟩
 go_wp2
 go_ret
 exact ⟨rfl, 0, _, alloc_eq_grow _ _⟩
end
section
open Go Go.Proofs Go.Sort Go.Lib
theorem sortW_any {g : FuncId} {cf : List UInt8 → List UInt8 → Int} (eg : ∀ args w, (callFunc g args).run Tryd.prog w = .ok (.enter g args) w) (hneg : ∀ a b, cf a b < 0 ↔ wle b a = false)
  (hcf : ∀ (x y : List UInt8) (W : World), Calls Tryd.prog g #[encStr x, encStr y] W fun e w' => e = .returned (.int .i64 (cf x y)) ∧ ∃ q os', w' = grow (W.drewN q) os') : SortsW Tryd.prog 45 g := by
 have hlt : ∀ a b, ltOf cf a b = !wle b a := fun a b => by
  unfold ltOf
  cases h : wle b a with
  | true => rw [decide_eq_false (fun x => by rw [(hneg a b).1 x] at h; cases h)]; rfl
  | false => rw [decide_eq_true ((hneg a b).2 h)]; rfl
 have hO : SWO (ltOf cf) := ⟨fun x => by rw [hlt]; have := wle_total x x; rw [Bool.or_self] at this; rw [this]; rfl,
  fun x y z h1 h2 => by
   rw [hlt] at *
   simp only [Bool.not_eq_true'] at *
   refine Bool.eq_false_iff.2 fun h => ?_
   have h3 : wle y z = true := by have := wle_total y z; rw [h2, Bool.or_false] at this; exact this
   exact absurd (wle_trans y z x h3 h) (by rw [h1]; decide),
  fun x y z h1 h2 => by
   rw [hlt] at *
   simp only [Bool.not_eq_false'] at *
   exact wle_trans z y x h2 h1⟩
 refine ⟨fun H id ver e l K hg hlen hK => ⟨enters' Tryd.func45 rfl rfl, fun μ w vs hs hr _ => ?_⟩⟩
 obtain ⟨x, xs, rfl, hr, x2, xs2, rfl, ⟨us, vs, rfl, hu, hv⟩, hn⟩ := hr
 cases hn
 cases hu
 cases hv
 obtain ⟨lo, hl, hor⟩ := hs.has _ _ _ hg
 rcases hr with ⟨lo', hl', h⟩ | ⟨hd, _⟩
 ·rw [hl] at hl'
  cases hl'
  rcases h with ⟨rfl, ⟨a0, rfl⟩, h0, _⟩ | ⟨b, cap, cur, e', rfl, rfl, hcap, _, hrow, hsz⟩
  ·have h0' : l = [] := List.eq_nil_of_length_eq_zero h0
   subst h0'
   refine (AnyF.slices_SortFunc_none { Tryd.sortF with } a0 0 _ w).mono ?_
   rintro e' w' ⟨rfl, rfl⟩
   refine ⟨_, .tup [], _, μ, rfl, hK, ?_, ⟨[], rfl, rfl⟩, Evo.refl _ _⟩
   have : (sortW []).map HV.str = [] := by simp [sortW]
   rw [this]
   exact hs.same hg
  have hor' := hor
  obtain ⟨h0, cur', vs', rest, hrow', hcl, hrl⟩ := hor
  obtain ⟨hvs, hreps⟩ := repL_strs hrl
  subst hvs
  have hc := Any.slices_SortFunc Tryd.sortF encStr (fun _ => rfl) cf hO g #[] b 0 cap l.toArray w eg (fun m os dk _ x y => hcf x y _) (holds_row hrow' hcl) hrow'.lt (by simpa using hlen)
  rw [show l.toArray.size = l.length from List.size_toArray] at hc
  refine hc.mono ?_
  rintro e2 w' ⟨rfl, d', n, os, hp, hsd, rfl⟩
  have hd1 : d'.toList = sortW l := by
   obtain ⟨p1, _, p3⟩ := hp
   have p1' : d'.size = l.length := by simpa using p1
   have e1 : (d'.extract 0 l.length).toList = d'.toList := by rw [← p1']; simp
   have e2 : (l.toArray.extract 0 l.length).toList = l := by simp
   rw [e1, e2] at p3
   refine (sortW_eq p3.symm ?_).symm
   rw [List.pairwise_iff_getElem]
   intro i j hi hj hij
   have := hsd i j (Nat.zero_le _) hij (by simpa [p1'] using hj)
   rw [hlt] at this
   simp only [Bool.not_eq_false'] at this
   simp only [Array.length_toList] at hi hj
   rw [getElem!_pos d' i hi, getElem!_pos d' j hj] at this
   simpa using this
  have hd2 : d' = (sortW l).toArray := by rw [← hd1]
  subst hd2
  obtain ⟨h1, h2⟩ := sorted_world (f := HV.str) (fun _ => rfl) hs hg hl hreps hor' (fun vs hv => (repL_strs hv).1) (sortW_perm l) n os
  exact ⟨_, .tup [], _, μ, rfl, hK, h1, ⟨[], rfl, rfl⟩, h2⟩
 exact absurd hl (hd.2 lo)
theorem c_sortWb : SortsW Tryd.prog 45 43 :=
 sortW_any (cf := fun a b => orI (compareInt (a.length : Int) (b.length : Int)) (compareBytes a b)) (enters' Tryd.func43 rfl rfl) (fun a b => or_neg a b (cmpB_neg a b)) fun x y W => by
  have := q43 ⟨x.toArray⟩ ⟨y.toArray⟩ W
  exact this
theorem c_sortWp : SortsW Tryd.prog 45 46 :=
 sortW_any (cf := fun a b => orI (compareInt (a.length : Int) (b.length : Int)) (cmpW a b)) (enters' Tryd.func46 rfl rfl) (fun a b => or_neg a b (cmpW_neg a b)) fun x y W => by
  have := q46 ⟨x.toArray⟩ ⟨y.toArray⟩ W
  exact this
end
open Go.Proofs
theorem kTInt : KeyT Tryd.prog 3 (HV.int .i64) kfInt wfInt where
 law := Go.Maps.int_keyed Tryd.underlying3
 inj := fun a b h => by
  unfold kfInt at h
  injection h
 kv := fun a h => by
  unfold wfInt at h
  refine ⟨fun w μ x hx => hx.1, ?_⟩
  refine ⟨.int .i64 a, ?_⟩
  have hu : Tryd.prog.underlying 3 = some (.int .i64) := Tryd.underlying3
  unfold keyOf
  rw [hu]
  simp only [mapKey, hu, kfInt]
  exact if_pos ⟨trivial, h⟩
section
variable {P : Program} {ro : Option Nat} {N B : Nat} {s : AS} {μ μ' : Mu} {a : Act} {w w' : World}
theorem run_append_inO {t xt ty' e : TypeId} {T Te : TyI} (hT : ty P t = some T) (hd : T.desc = .slice e) (hTe : ty P e = some Te) {b off n cap m : Nat} {cur : Array Value} {x : Value} {news : List Value}
  (hr : Row w b cur e) (hsrc : Src P w xt x Te.size m news) (h1 : ∀ v ∈ news, v.oneCell' = true) (hcap : off + cap * Te.size = cur.size) (hroom : n + m ≤ cap) :
  ∃ w' cur', (Builtin.append_ #[t, xt] ty' #[.slice (some ⟨b, off, none⟩) n cap, x]).run P w = .ok (.slice (some ⟨b, off, none⟩) (n + m) cap) w' ∧ Row w' b cur' e ∧
   cur'.toList = cur.toList.take (off + n * Te.size) ++ news ++ cur.toList.drop (off + n * Te.size + news.length) ∧ Same w w' ∧ w'.heap.size = w.heap.size ∧ ∀ b', b' ≠ b → w'.heap[b']? = w.heap[b']? := by
 have hfit : off + n * Te.size + 0 + news.length ≤ cur.size := by
  rw [hsrc.hl, ← hcap, Nat.add_zero, Nat.add_assoc, ← Nat.add_mul]
  exact Nat.add_le_add_left (Nat.mul_le_mul_right _ hroom) _
 obtain ⟨w', cur', h2, h3, h4, h5, h6, h7⟩ := storeCells_row (P := P) b (off + n * Te.size) e news 0 cur w hr hfit h1
 refine ⟨w', cur', ?_, h3, by simpa using h4, h5, h6, h7⟩
 have hu := ty_under hT
 rw [hd] at hu
 have hadd : (⟨b, off, none⟩ : Addr).add (n * Te.size) = ⟨b, off + n * Te.size, none⟩ := by rw [Addr.add_lit]
 rcases hsrc.int with ⟨e', hx⟩ | hx
 ·simp [Builtin.append_, hu, hx, ty_sizeOf hTe, hsrc.len, hroom, hsrc.cells w rfl, h2, hadd]
 simp [Builtin.append_, hu, hx, ty_sizeOf hTe, hsrc.len, hroom, hsrc.cells w rfl, h2, hadd]
theorem AOp.appendQ {o : Oper} {K : AS → Prop} {t xt e : TypeId} {T Te : TyI} {x y : Operand} {hy : HV} {i ver off n m : Nat} {xs ds : List HV}
  (hop : o.op = .call { callee := .builtin .append, args := #[x, y], argTypes := #[t, xt] }) (hN : okd N o.dst = true) (hT : ty P t = some T) (hd : T.desc = .slice e) (hTe : ty P e = some Te)
  (hz : (zcells Te.zero).any (fun zs => zs.length == Te.size) = true) (hex : s.ev x = some (.ar i ver Te.size off n)) (hey : s.ev y = some hy)
  (hg : hget s.heap i = some (ver, .arr Te.size e xs)) (hlen : off + n * Te.size = xs.length) (hsrc : asrc P s xt Te.size hy fun m' ds' => m' = m ∧ ds' = ds)
  (hbytes : (n + m) * Te.bytes ≤ 140737488355328) (h63 : n + m ≤ maxLen)
  (hk1 : ∀ v, K (({ s with heap := hset s.heap i v (.arr Te.size e (xs ++ ds)) } : AS).put o.dst (.ar i v Te.size off (n + m))))
  (hk2 : ∀ v, K (({ s with heap := hset s.heap i v (.arr Te.size e (xs.drop off ++ ds)) } : AS).put o.dst (.ar i v Te.size 0 (n + m)))) : AOp P ro N o K s := by
 refine AOp.value (fun c e => by rw [hop] at e; cases e) hN fun B μ a w hs => ?_
 obtain ⟨m', ds', vs, ⟨rfl, rfl⟩, hdone, hdr, hS⟩ := asrc_spec hs (hs.ev hey) hsrc
 have hzs : Te.zero.cells.size = Te.size := by
  cases hzz : zcells Te.zero with
  | none => rw [hzz] at hz; simp at hz
  | some zs =>
   rw [hzz] at hz
   have := (zcells_rep (w := w) (μ := μ) hzz).length
   simp at hz
   rw [← Array.length_toList, this, hz]
 have hrunC : ∀ v' w', (Builtin.append_ #[t, xt] o.type #[a.eval x, a.eval y]).run P w = .ok v' w' → (execOp a.eval o).run P w = .ok (.value v') w' := fun v' w' hv => by
  simp only [execOp, hop, resolve, invoke, builtin, Sem.run_bind, Sem.run_pure, Result.andThen_ok, List.map_toArray, List.map_cons, List.map_nil, hv]
 obtain ⟨l, hl, hor⟩ := hs.sr.has i _ _ hg
 rcases hs.ev hex with ⟨l', hl', hxr⟩ | ⟨hdd, _⟩
 case inr => exact absurd hl (hdd.2 l)
 rw [hl] at hl'
 cases hl'
 rcases hxr with ⟨rfl, ⟨a0, he⟩, rfl, rfl⟩ | ⟨b, cap, cur, e3, rfl, he, hnc, hcm, hrow, hsz⟩
 ·-- nothing there: a new row, or nothing is appended
  have hxs : xs = [] := hor
  subst hxs
  by_cases hm0 : m' = 0
  ·subst hm0
   have hrun : (Builtin.append_ #[t, xt] o.type #[a.eval x, a.eval y]).run P w = .ok (.slice a0 0 0) w := by
    have hu := ty_under hT
    rw [hd] at hu
    have hv0 : vs = [] := List.eq_nil_of_length_eq_zero (by rw [hS.hl]; simp)
    have hc := hS.cells w rfl
    rw [he]
    rcases hS.int with ⟨e', hx'⟩ | hx'
    ·cases a0 <;> simp [Builtin.append_, hu, hx', ty_sizeOf hTe, hS.len, hc, storeCells, hv0]
    cases a0 <;> simp [Builtin.append_, hu, hx', ty_sizeOf hTe, hS.len, hc, storeCells, hv0]
   have hds0 : ds' = [] := List.eq_nil_of_length_eq_zero (by rw [← hdr.length, hS.hl]; simp)
   have hsame : ∀ b, b < w.heap.size → (∀ ver, μ.loc i ≠ some (ver, some b)) → w.heap[b]? = w.heap[b]? := fun _ _ _ => rfl
   refine ⟨_, .ar i μ.nx Te.size 0 (0 + 0), μ.set i none, w, _, hrunC _ _ hrun, hs.sr.repl i none (.arr Te.size e ([].drop 0 ++ ds')) (Same.refl w) (Nat.le_refl _) hsame (fun b hb => by cases hb) ?_,
    Evo.repl hs.sr i none (Same.refl w) (Nat.le_refl _) hsame (fun b hb => by cases hb), .inl ⟨none, by simp [Mu.set], .inl ⟨rfl, ⟨_, rfl⟩, rfl, rfl⟩⟩, hk2 μ.nx⟩
   show [] ++ ds' = []
   rw [hds0]; rfl
  have hold0 : ∀ w' : World, w'.heap = w.heap → (Builtin.firstCells Te.size 0 (.slice a0 0 0)).run P w' = .ok ([] : List Value).toArray w' := by
   intro w' _
   cases a0 <;> simp [Builtin.firstCells, loadCells, loadCellsFrom]
  obtain ⟨w', newCap, rest, h1, h2, h3, h4, h5, g⟩ := run_append_out (P := P) (ty' := o.type) hT hd hTe hold0 (by simp) hS hzs (by omega) hbytes h63
  have hold : ∀ b', b' < w.heap.size → (∀ ver, μ.loc i ≠ some (ver, some b')) → w'.heap[b']? = w.heap[b']? := fun b' hb' _ => g.old b' hb'
  have hl' : ∀ b', some w.heap.size = some b' → w.heap.size ≤ b' ∨ ∃ ver, μ.loc i = some (ver, some b') := fun b' e => by cases e; exact .inl (Nat.le_refl _)
  have hE := Evo.repl hs.sr i (some w.heap.size) g.toSame g.size hold hl'
  refine ⟨_, .ar i μ.nx Te.size 0 (0 + m'), μ.set i (some w.heap.size), w', _, hrunC _ _ (by rw [he]; exact h1), hs.sr.repl i (some w.heap.size) (.arr Te.size e ([].drop 0 ++ ds')) g.toSame g.size hold hl' ?_, hE,
   .inl ⟨some w.heap.size, by simp [Mu.set], .inr ⟨w.heap.size, newCap, _, e, rfl, rfl, h4, h5, h2, by simp only [List.size_toArray]; omega⟩⟩, hk2 μ.nx⟩
  exact ⟨ones.nil.append hdone, _, [] ++ vs, rest, h2, rfl, by simpa using RepL.evo hE hs.sr.ok _ _ hdr⟩
 obtain ⟨h1, cur', us, rest, hrow', hcl, hrl⟩ := hor
 obtain ⟨rfl, rfl⟩ := hrow.inj hrow'
 have hul := hrl.length
 have htake : cur.toList.take (off + n * Te.size) = us := by rw [hcl, List.take_append_of_le_length (by omega), List.take_of_length_le (by omega)]
 by_cases hroom : n + m' ≤ cap
 ·obtain ⟨w', cur', q1, h2, h3, h4, h5, h6⟩ := run_append_inO (P := P) (ty' := o.type) hT hd hTe hrow hS (RepL.oneCells hdone hdr) hsz hroom
  have hold : ∀ b', b' < w.heap.size → (∀ ver, μ.loc i ≠ some (ver, some b')) → w'.heap[b']? = w.heap[b']? := fun b' _ hno => h6 b' fun e => hno ver (e ▸ hl)
  have hl' : ∀ b', some b = some b' → w.heap.size ≤ b' ∨ ∃ ver, μ.loc i = some (ver, some b') := fun b' e => by cases e; exact .inr ⟨ver, hl⟩
  have hE := Evo.repl hs.sr i (some b) h4 (by omega) hold hl'
  have hcsz : cur'.size = cur.size := by
   have hfit : off + n * Te.size + vs.length ≤ cur.size := by
    rw [hS.hl, ← hsz, Nat.add_assoc, ← Nat.add_mul]
    exact Nat.add_le_add_left (Nat.mul_le_mul_right _ hroom) _
   rw [← Array.length_toList, h3]
   simp only [List.length_append, List.length_take, List.length_drop, Array.length_toList]
   omega
  refine ⟨_, .ar i μ.nx Te.size off (n + m'), μ.set i (some b), w', _, hrunC _ _ (by rw [he]; exact q1), hs.sr.repl i (some b) (.arr Te.size _ (xs ++ ds')) h4 (by omega) hold hl' ?_, hE,
   .inl ⟨some b, by simp [Mu.set], .inr ⟨b, cap, cur', _, rfl, rfl, hroom, hcm, h2, by omega⟩⟩, hk1 μ.nx⟩
  refine ⟨h1.append hdone, cur', us ++ vs, cur.toList.drop (off + n * Te.size + vs.length), h2, ?_, (RepL.evo hE hs.sr.ok _ _ hrl).append (RepL.evo hE hs.sr.ok _ _ hdr)⟩
  rw [h3, htake]
 have hold0 : ∀ w' : World, w'.heap = w.heap → (Builtin.firstCells Te.size n (.slice (some ⟨b, off, none⟩) n cap)).run P w' = .ok (us.drop off).toArray w' := by
  intro w' hw'
  obtain ⟨lo, hi, hh, _⟩ := hrow
  have hseg : Seg w b off (us.drop off) := ⟨cur, _, (lo, hi), us.take off, rest, hh, by rw [List.take_append_drop]; exact hcl, by simp; omega⟩
  exact first_seg hseg (by simp; omega) w' hw'
 obtain ⟨w', newCap, rest', q1, h2, h3, h4, h5, g⟩ := run_append_out (P := P) (ty' := o.type) hT hd hTe hold0 (by simp; omega) hS hzs (by omega) hbytes h63
 have hold : ∀ b', b' < w.heap.size → (∀ ver, μ.loc i ≠ some (ver, some b')) → w'.heap[b']? = w.heap[b']? := fun b' hb' _ => g.old b' hb'
 have hl' : ∀ b', some w.heap.size = some b' → w.heap.size ≤ b' ∨ ∃ ver, μ.loc i = some (ver, some b') := fun b' e => by cases e; exact .inl (Nat.le_refl _)
 have hE := Evo.repl hs.sr i (some w.heap.size) g.toSame g.size hold hl'
 refine ⟨_, .ar i μ.nx Te.size 0 (n + m'), μ.set i (some w.heap.size), w', _, hrunC _ _ (by rw [he]; exact q1), hs.sr.repl i (some w.heap.size) (.arr Te.size _ (xs.drop off ++ ds')) g.toSame g.size hold hl' ?_, hE,
  .inl ⟨some w.heap.size, by simp [Mu.set], .inr ⟨w.heap.size, newCap, _, _, rfl, rfl, h4, h5, h2, by simp only [List.size_toArray]; omega⟩⟩, hk2 μ.nx⟩
 exact ⟨(h1.drop off).append hdone, _, us.drop off ++ vs, rest', h2, rfl, ((RepL.evo hE hs.sr.ok _ _ hrl).drop off).append (RepL.evo hE hs.sr.ok _ _ hdr)⟩
theorem AOp.sliceQ {o : Oper} {K : AS → Prop} {t e e' : TypeId} {T : TyI} {x lo : Operand} {i ver k off n : Nat} {xs : List HV} {lk : IntKind}
  (hop : o.op = .slice t x (some lo) none none) (hN : okd N o.dst = true) (hT : ty P t = some T) (hd : T.desc = .slice e) (hk : elemSize P t = some k) (hex : s.ev x = some (.ar i ver k off n)) (hlo : s.ev lo = some (.int lk 1))
  (hg : hget s.heap i = some (ver, .arr k e' xs)) (hn : 1 ≤ n)
  (hk1 : ∀ v, K (({ s with heap := hset s.heap i v (.arr k e' xs) } : AS).put o.dst (.ar i v k (off + k) (n - 1))))
  (hk2 : n = 1 → ∀ v, K (({ s with heap := hset s.heap i v (.arr k e' []) } : AS).put o.dst (.ar i v k 0 0))) : AOp P ro N o K s := by
 refine AOp.value (fun c e => by rw [hop] at e; cases e) hN fun B μ a w hs => ?_
 obtain ⟨l, hl, hor⟩ := hs.sr.has i _ _ hg
 have hu := ty_under hT
 rw [hd] at hu
 have hz := elemSize_slice hT hd hk w
 rcases hs.ev hex with ⟨l', hl', hxr⟩ | ⟨hdd, _⟩
 case inr => exact absurd hl (hdd.2 l)
 rw [hl] at hl'
 cases hl'
 rcases hxr with ⟨rfl, _, h0, _⟩ | ⟨b, cap, cur, e3, rfl, he, hnc, hcm, hrow, hsz⟩
 ·omega
 have hb := run_bounds (P := P) hs (lo := some lo) (hi := none) (p := 1) (q := n) true n cap (by simp [asl, hlo]) rfl (by omega) (by omega) (by omega)
 simp only [Option.map_some, Option.map_none, Int.toNat_one, Int.toNat_natCast] at hb
 by_cases hpc : cap = 1
 ·have hn1 : n = 1 := by omega
  subst hn1 hpc
  have hsame : ∀ b, b < w.heap.size → (∀ ver, μ.loc i ≠ some (ver, some b)) → w.heap[b]? = w.heap[b]? := fun _ _ _ => rfl
  refine ⟨.slice (some ⟨b, off, none⟩) 0 0, .ar i μ.nx k 0 0, μ.set i none, w, _, ?_, hs.sr.repl i none (.arr k e' []) (Same.refl w) (Nat.le_refl _) hsame (fun b hb => by cases hb) rfl,
   Evo.repl hs.sr i none (Same.refl w) (Nat.le_refl _) hsame (fun b hb => by cases hb), .inl ⟨none, by simp [Mu.set], .inl ⟨rfl, ⟨_, rfl⟩, rfl, rfl⟩⟩, hk2 rfl μ.nx⟩
  simp [execOp, hop, Instr.sliceAt, Instr.slice, he, hu, hb, hz]
 refine ⟨.slice (some ⟨b, off + 1 * k, none⟩) (n - 1) (cap - 1), .ar i ver k (off + k) (n - 1), μ, w, _, ?_, hs.sr.same hg, Evo.refl w μ, .inl ⟨some b, hl, .inr ⟨b, cap - 1, cur, e3, rfl, by rw [Nat.one_mul], by omega, by omega, hrow, ?_⟩⟩, hk1 ver⟩
 ·simp [execOp, hop, Instr.sliceAt, Instr.slice, he, hu, hb, hz, hpc, Addr.add_lit]
 obtain ⟨c', rfl⟩ : ∃ c', cap = c' + 1 := ⟨cap - 1, by omega⟩
 rw [Nat.add_sub_cancel, ← hsz, Nat.add_mul, Nat.one_mul]
 omega
end
section
variable {P : Program} {ro : Option Nat} {N : Nat} {o : Oper} {sl : List (Nat × HV)} {H : Heap} {all : Array Oper} {rest : List Oper} {K : AS → Prop} {α : Type} (c : EncL α)
theorem v_idxAQ {s : AS} {t e : TypeId} {a b : Nat} {z : Value} {x i : Operand} {k m n id ver : Nat} {o : AObj} {k' : IntKind} {j : Int} (hT : ty P t = some ⟨.slice e, a, b, z⟩) (hE : elemSize P t = some k) (hx : s.ev x = some (.ar id ver k m n)) (hi : s.ev i = some (.int k' j)) (hj : 0 ≤ j ∧ j < n) (hg : hget s.heap id = some (ver, o)) :
  aval P (.indexAddr t x i) s (· = .ptr id ver (m + j.toNat * k)) := by
 simp only [aval, hT, hE, hx, hi]
 exact ⟨trivial, hj.1, hj.2, by simp only [alive, hg], trivial⟩
theorem idxQ {pre l : List α} {j : Int} {x : α} (h : idx l j = some x) : idx (pre ++ l) ((pre.length : Int) + j) = some x ∧ ((pre.length : Int) + j).toNat = pre.length + j.toNat := by
 obtain ⟨h0, h1⟩ := idx_lt h
 have e : ((pre.length : Int) + j).toNat = pre.length + j.toNat := by omega
 refine ⟨?_, e⟩
 unfold idx
 rw [if_pos (by omega), e, List.getElem?_append_right (by omega), Nat.add_sub_cancel_left]
 exact idx_get h
theorem l_aggQ {T : TyI} {pre l : List α} {j : Int} {x : α} (h : idx l j = some x) (ha : aggD T.desc = true) (hs : T.size = c.k) : loadK T (c.E (pre ++ l)) (pre.length * c.k + j.toNat * c.k) (· = .agg (c.C x)) := by
 obtain ⟨h1, h2⟩ := idxQ (pre := pre) h
 have := l_agg c h1 ha hs
 rwa [h2, Nat.add_mul] at this
theorem b_appQ {d : Nat} {t xt e e2 : TypeId} {a b a2 b2 : Nat} {z z2 : Value} {aa : Array Operand} {ts : Array TypeId} {x y : Operand} {Te : TyI} {pre l m : List α} {id ver : Nat}
  (hgd : o.guard = none) (h0 : (o.dst, o.op) = (some d, .call ⟨.builtin .append, aa, ts⟩)) (ha : (aa.toList, ts.toList) = ([x, y], [t, xt])) (hT : ty P t = some ⟨.slice e, a, b, z⟩) (hxt : ty P xt = some ⟨.slice e2, a2, b2, z2⟩) (hTe : ty P e = some Te)
  (hx : (⟨sl, H⟩ : AS).ev x = some (.ar id ver c.k (pre.length * c.k) l.length)) (hg : hget H id = some (ver, .arr c.k e (c.E (pre ++ l)))) (hy : (⟨sl, H⟩ : AS).ev y = some (.sl c.k m.length (c.E m)))
  (hk : Te.size = c.k) (hz : (zcells Te.zero).any (fun zs => zs.length == Te.size) = true) (h : fits Te.bytes (l.length + m.length))
  (k : ∀ ver' pre', bops P ro N all rest K ⟨(d, .ar id ver' c.k (List.length (α := α) pre' * c.k) (l ++ m).length) :: sl, (id, ver', .arr c.k e (c.E (pre' ++ (l ++ m)))) :: H⟩) : bops P ro N all (o :: rest) K ⟨sl, H⟩ := by
 refine b_opX hgd fun hN => ?_
 obtain ⟨e2', e3⟩ := Prod.mk.inj h0
 obtain ⟨e4, e5⟩ := Prod.mk.inj ha
 have e4 : aa = #[x, y] := by rw [← Array.toArray_toList (xs := aa), e4]
 have e5 : ts = #[t, xt] := by rw [← Array.toArray_toList (xs := ts), e5]
 subst e4 e5
 obtain ⟨f1, f2⟩ := h
 rw [← hk] at hx hg hy
 refine AOp.appendQ (ds := c.E m) (m := m.length) e3 hN hT rfl hTe hz hx hy hg (by rw [c.append, List.length_append, c.len, c.len, hk]) ?_ f1 f2 (fun v => ?_) (fun v => ?_)
 ·simp only [asrc, hxt]
  exact ⟨trivial, trivial, trivial⟩
 ·have := k v pre
  rw [← List.append_assoc, c.append, List.length_append, ← hk] at this
  rw [e2']
  exact bops_le (put_le (s := ⟨sl, hset H id v _⟩) d _) (bops_le (hset_le H id v _ _) this)
 have := k v []
 rw [List.nil_append, c.append, List.length_append, List.length_nil, Nat.zero_mul, ← hk] at this
 have hdr : (c.E (pre ++ l)).drop (pre.length * Te.size) = c.E l := by
  rw [c.append, hk, ← c.len, List.drop_left]
 rw [e2', hdr]
 exact bops_le (put_le (s := ⟨sl, hset H id v _⟩) d _) (bops_le (hset_le H id v _ _) this)
theorem b_sliceQ {d : Nat} {t e : TypeId} {a b : Nat} {z : Value} {x lo : Operand} {pre l : List α} {id ver : Nat} {lk : IntKind}
  (hgd : o.guard = none) (h0 : (o.dst, o.op) = (some d, .slice t x (some lo) none none)) (hT : ty P t = some ⟨.slice e, a, b, z⟩) (hk : elemSize P t = some c.k)
  (hx : (⟨sl, H⟩ : AS).ev x = some (.ar id ver c.k (pre.length * c.k) l.length)) (hlo : (⟨sl, H⟩ : AS).ev lo = some (.int lk 1)) (hg : hget H id = some (ver, .arr c.k e (c.E (pre ++ l)))) (hn : 1 ≤ l.length)
  (k : ∀ ver' pre', bops P ro N all rest K ⟨(d, .ar id ver' c.k (List.length (α := α) pre' * c.k) (l.drop 1).length) :: sl, (id, ver', .arr c.k e (c.E (pre' ++ l.drop 1))) :: H⟩) : bops P ro N all (o :: rest) K ⟨sl, H⟩ := by
 refine b_opX hgd fun hN => ?_
 obtain ⟨e2', e3⟩ := Prod.mk.inj h0
 cases l with
 | nil => simp at hn
 | cons y l =>
  simp only [List.drop_succ_cons, List.drop_zero] at k
  refine AOp.sliceQ e3 hN hT rfl hk hx hlo hg hn (fun v => ?_) (fun h1 v => ?_)
  ·have := k v (pre ++ [y])
   rw [List.append_assoc, List.length_append, List.length_singleton, Nat.add_mul, Nat.one_mul] at this
   rw [e2']
   exact bops_le (put_le (s := ⟨sl, hset H id v _⟩) d _) (bops_le (hset_le H id v _ _) this)
  have hl : l = [] := List.eq_nil_of_length_eq_zero (by simpa using h1)
  subst hl
  have := k v []
  rw [List.length_nil, Nat.zero_mul, show c.E ([] ++ []) = [] from c.nil] at this
  rw [e2']
  exact bops_le (put_le (s := ⟨sl, hset H id v _⟩) d _) (bops_le (hset_le H id v _ _) this)
end
end Go.AW
namespace Go.Proofs
open Go
def Tryd.cloneSt_ren : Go.Shelf.Ren := ⟨fun | 41 => 83 | n => n, fun | 22 => 22 | 23 => 9 | 4 => 4 | n => n, fun | n => n⟩
theorem Tryd.cloneSt : Go.Proofs.SlLaysE0.n41 Tryd.prog Tryd.cloneSt_ren where
 mixed := by kernel_rfl
 f41 := ⟨"slices.Clone[[]string,string]", by decide, Tryd.func83.trans (congrArg some (by kernel_rfl))⟩
 t4 := Tryd.underlying4
 a4 := Tryd.isAgg4
 z4 := Tryd.sizeOf4
 v4 := Tryd.zeroValue4
 t22 := Tryd.underlying22
 a22 := Tryd.isAgg22
 z22 := Tryd.sizeOf22
 v22 := Tryd.zeroValue22
open Go.Shelf Go.RowKit Go.Lib
variable {P : Program} {ρ : Ren}
set_option maxHeartbeats 2000000 in
set_option maxRecDepth 100000 in
theorem clone_anyT (L : SlLaysE0.n41 P ρ) (i0 : TypeInfo) (z : Value) (size bytes : Nat) (hi : P.info? (ρ.t 23) = some i0) (hz0 : i0.zero = some z) (hz1 : i0.size = size) (hz2 : i0.bytes = bytes) (hzs : z.cells.size = size) (hsz : 0 < size)
  (z23 : ∀ w, (Go.sizeOf (ρ.t 23)).run P w = .ok size w) (ad : Addr) (n c : Nat) (news : List Value) (w : World) (hl : news.length = n * size) (hn : n ≤ maxLen) (hbig : n * bytes ≤ 140737488355328)
  (hc : ∀ j u, news[j]? = some u → w.cell? (ad.add j) = some u) (h1 : ∀ u ∈ news, u.oneCell' = true) :
  Calls P (ρ.f 41) #[.slice (some ad) n c] w fun e w' => ∃ v', e = .returned v' ∧ w'.ownsRow w.heap.size (ρ.t 23) size v' n news ∧ v' ≠ .slice none 0 0 ∧ Below w.heap.size w w' := by
 have mixed := L.mixed; have t4 := L.t4; have a4 := L.a4; have z4 := L.z4; have v4 := L.v4; have t22 := L.t22; have a22 := L.a22; have z22 := L.z22; have v22 := L.v22
 have q22 : ∀ (w : World) (a : Option Addr) (n c n' c' : Nat), (binOp .eql (ρ.t 22) (.slice a n c) (.slice none n' c')).run P w = .ok (.bool a.isNone) w := fun w a n c n' c' => Lib.run_eql_slice_nil w _ _ a n c n' c' L.t22
 have u22 : ∀ w, Sem.run P (underlying (ρ.t 22)) w = .ok (TypeDesc.slice (ρ.t 23)) w := run_underlying t22
 have A : Aside (∀ j u, news[j]? = some u → w.cell? (ad.add j) = some u) := hc
 clear hc
 obtain ⟨_, _, FG⟩ := L.f41
 go_enter FG, SlBodyN.n41_ntmps ρ
 go_wp2_with (at_builtin; refine wpList_append_own _ rfl _ _ (ρ.t 22) rfl w.heap.size (ρ.t 23) i0 z size bytes t22 hi hz0 hz1 hz2 hzs hsz _ _ _ rfl (World.ownsRow_made w #[] 0 (Nat.le_refl _) (Nat.zero_le _) (by simp)) ad n c news rfl ?qc1 ?qc2 ?qc3 ?qc4 ?qc5 ?qc6 ?_)
 case qc1 => exact hl
 case qc2 =>
  intro j u hj
  exact Lib.cell?_alloc_some _ (A.out j u hj)
 case qc3 => exact h1
 case qc4 => rw [Nat.zero_add]; exact hn
 case qc5 => rw [Nat.zero_add]; exact hbig
 case qc6 => simp
 intro v' w1 hown hgrow hnil
 go_wp2
 go_ret
 refine ⟨v', rfl, by simpa using hown, ?_, ?_⟩
 ·exact hnil
 exact ((Below.refl _ w).alloc (Nat.le_refl _) _).grown hgrow (by simp) (by intro k hk; simp [Value.ownBlock] at hk; omega)
end Go.Proofs
namespace Go.AW
open Go Go.Proofs Go.Sort Go.Lib
theorem slT_cases {l : List (List UInt8)} {w : World} {μ : Mu} {x : Value} (hr : Rep w μ (slE eStr l) x) : l.length ≤ maxLen ∧ ((l = [] ∧ x = .slice none 0 0) ∨ ∃ A c, x = .slice (some A) l.length c ∧ (∀ j u, (l.map encStr)[j]? = some u → w.cell? (A.add j) = some u) ∧ ∀ y ∈ l, Rep w μ (.str y) (encStr y)) := by
 obtain ⟨_, _, hm, ⟨h0, a, rfl⟩ | ⟨b, off, cap, vs, rfl, hcap, hno, hsg, hrl⟩⟩ := hr
 ·have h0 := List.eq_nil_of_length_eq_zero h0
  subst h0
  cases a with
  | none => exact ⟨hm, .inl ⟨rfl, rfl⟩⟩
  | some A => exact ⟨hm, .inr ⟨A, 0, rfl, fun j u hj => by simp at hj, fun y hy => by cases hy⟩⟩
 obtain ⟨hvs, hreps⟩ := repL_strs hrl
 subst hvs
 exact ⟨hm, .inr ⟨⟨b, off, none⟩, cap, rfl, fun j u hj => by rw [Addr.add_lit]; exact hsg.cell hj, hreps⟩⟩
theorem c_cloneSO {l r : List (List UInt8)} {H : Heap} {K : HV → Heap → Prop} (id : Nat) (h : m_slices_Clone_Lstring_string l = some r) (hK : ∀ ver, K (.ar id ver 1 0 r.length) (hset H id ver (.arr 1 9 (r.map HV.str)))) : ACall Tryd.prog 83 [slE eStr l] H K := by
 unfold m_slices_Clone_Lstring_string at h
 split at h
 ·rename_i hl
  cases h
  refine ⟨enters' Tryd.func83 rfl rfl, fun μ w vs hs hr _ => ?_⟩
  obtain ⟨x, xs, rfl, hr, hn⟩ := hr
  cases hn
  obtain ⟨hm, ⟨hl0, rfl⟩ | ⟨A, cap, rfl, hsg, hreps⟩⟩ := slT_cases hr
  ·refine (AnyE.slices_Clone_nil Tryd.cloneSt _ _ w).mono ?_
   rintro e w' ⟨rfl, rfl⟩
   subst hl0
   exact ⟨_, .ar id μ.nx 1 0 0, _, μ.set id none, rfl, hK μ.nx, hs.repl id none (.arr 1 9 []) (Same.refl _) (Nat.le_refl _) (fun _ _ _ => rfl) (fun b hb => by cases hb) rfl, .inl ⟨none, by simp [Mu.set], .inl ⟨rfl, ⟨_, rfl⟩, rfl, rfl⟩⟩, Evo.repl hs id none (Same.refl _) (Nat.le_refl _) (fun _ _ _ => rfl) (fun b hb => by cases hb)⟩
  obtain ⟨_, i0, hi0, hz1, hz2, hz0⟩ := ty_spec ty9
  refine (clone_anyT Tryd.cloneSt i0 _ 1 16 hi0 hz0 hz1 hz2 rfl (by decide) (fun w => Tryd.sizeOf9 w) A l.length cap (l.map encStr) w (by simp) hm (by omega) hsg (fun u hu => by
   obtain ⟨x, _, rfl⟩ := List.mem_map.1 hu; rfl)).mono ?_
  rintro e w' ⟨v', rfl, ⟨_, ⟨rfl, _⟩ | ⟨g, cap', cur, rfl, hg1, hg2, hc1, hc2, hc3, hc4⟩⟩, hnn, hbel⟩
  ·exact absurd rfl hnn
  have hsame : Same w w' := ⟨hbel.os, hbel.tape, hbel.output⟩
  have hold : ∀ k, k < w.heap.size → w'.heap[k]? = w.heap[k]? := hbel.block
  have hE := Evo.repl (w' := w') hs id (some g) hsame hbel.size (fun b hb _ => hold b hb) (fun b hb => by cases hb; exact .inl hg1)
  have hrowg : Row w' g cur 9 := ⟨0, 0, hg2, .inl (Nat.le_refl _)⟩
  have hsr := hs.repl (w' := w') id (some g) (.arr 1 9 (l.map HV.str)) hsame hbel.size (fun b hb _ => hold b hb) (fun b hb => by cases hb; exact .inl hg1)
   ⟨fun c hc => by obtain ⟨x, _, rfl⟩ := List.mem_map.1 hc; rfl, cur, l.map encStr, cur.toList.drop (l.length * 1), hrowg, by rw [← hc4, List.take_append_drop], repL_map.2 fun x hx => Rep.evo hE hs.ok _ _ (hreps x hx)⟩
  refine ⟨_, .ar id μ.nx 1 0 l.length, _, μ.set id (some g), rfl, hK μ.nx, hsr, .inl ⟨some g, by simp [Mu.set], .inr ⟨g, cap', cur, 9, rfl, rfl, hc1, hc2, hrowg, by omega⟩⟩, hE⟩
 cases h
end Go.AW
namespace Go.Proofs
open Go
def Tryd.compS_ren : Go.Shelf.Ren := ⟨fun | 194 => 84 | n => n, fun | 31 => 22 | 9 => 9 | 3 => 3 | 4 => 4 | 0 => 0 | n => n, fun | n => n⟩
theorem Tryd.compS : Go.Proofs.Lays.n194 Tryd.prog Tryd.compS_ren where
 mixed := by kernel_rfl
 f194 := Tryd.func84.trans (congrArg some (by kernel_rfl))
 t0 := Tryd.underlying0
 a0 := Tryd.isAgg0
 z0 := Tryd.sizeOf0
 v0 := Tryd.zeroValue0
 t3 := Tryd.underlying3
 a3 := Tryd.isAgg3
 z3 := Tryd.sizeOf3
 v3 := Tryd.zeroValue3
 t4 := Tryd.underlying4
 a4 := Tryd.isAgg4
 z4 := Tryd.sizeOf4
 v4 := Tryd.zeroValue4
 t9 := Tryd.underlying9
 a9 := Tryd.isAgg9
 z9 := Tryd.sizeOf9
 v9 := Tryd.zeroValue9
 t31 := Tryd.underlying22
 a31 := Tryd.isAgg22
 z31 := Tryd.sizeOf22
 v31 := Tryd.zeroValue22
end Go.Proofs
namespace Go.AW
open Go
section
open Go Go.Proofs Go.Sort Go.Lib
set_option linter.unusedVariables false
theorem w_compS {H : Heap} {id ver : Nat} {e : TypeId} {l : List (List UInt8)} {K : HV → Heap → Prop} (hg : hget H id = some (ver, .arr 1 e (l.map .str)))
  (hK : K (.ar id ver 1 0 (compactS_ l).length) (hset H id ver (.arr 1 e ((compactS_ l ++ List.replicate (l.length - (compactS_ l).length) []).map .str)))) : ACall Tryd.prog 84 [.ar id ver 1 0 l.length] H K := by
 refine ⟨enters' Tryd.func84 rfl rfl, fun μ w vs hs hr _ => ?_⟩
 obtain ⟨x, xs, rfl, hr, hn⟩ := hr
 cases hn
 obtain ⟨lo, hl, hor⟩ := hs.has _ _ _ hg
 rcases hr with ⟨lo', hl', h⟩ | ⟨hd, _⟩
 ·rw [hl] at hl'
  cases hl'
  rcases h with ⟨rfl, ⟨a0, rfl⟩, h0, _⟩ | ⟨b, cap, cur, e', rfl, rfl, hcap, hcm, hrow, hsz⟩
  ·have hl0 := List.eq_nil_of_length_eq_zero h0
   subst hl0
   refine (Any.slices_Compact_string_empty Tryd.compS a0 0 w).mono ?_
   rintro e2 w' ⟨rfl, rfl⟩
   refine ⟨_, .ar id ver 1 0 0, _, μ, rfl, hK, hs.reobj hg fun l hl hor => hor, .inl ⟨none, hl, .inl ⟨rfl, ⟨_, rfl⟩, rfl, rfl⟩⟩, Evo.refl _ _⟩
  have hor' := hor
  obtain ⟨h0, cur', vs', rest, hrow', hcl, hrl⟩ := hor
  obtain ⟨hvs, hreps⟩ := repL_strs hrl
  subst hvs
  refine (Any.slices_Compact_string Tryd.compS b 0 cap l w (holds_row hrow' hcl) (by have := hcm; simp only [maxLen] at this; omega) hcap).mono ?_
  rintro e2 w' ⟨rfl, n, rfl⟩
  have hle := compactS_le l
  have hlen : (compactS_ l ++ List.replicate (l.length - (compactS_ l).length) ([] : List UInt8)).length = l.length := by simp; omega
  obtain ⟨h1, h2⟩ := put_world (f := HV.str) (fun _ => rfl) hs hg hl (d := compactS_ l ++ List.replicate (l.length - (compactS_ l).length) []) (fun x hx => by
   rcases List.mem_append.1 hx with hx | hx
   ·exact hreps x (compactS_mem hx)
   rw [List.eq_of_mem_replicate hx]; exact ⟨rfl, by simp [maxLen]⟩) hor' (fun vs hv => (repL_strs hv).1) hlen n
  refine ⟨_, .ar id ver 1 0 (compactS_ l).length, _, μ, rfl, hK, h1, .inl ⟨some b, hl, .inr ⟨b, cap, putCells encStr 0 (compactS_ l ++ List.replicate (l.length - (compactS_ l).length) []).toArray cur, e', rfl, by simp, by omega, hcm, ?_, ?_⟩⟩, h2⟩
  ·obtain ⟨lo, hi, hbk, hfr⟩ := hrow
   refine ⟨lo, hi, ?_, by simpa [putCells] using hfr⟩
   show (w.heap.modify b _)[b]? = _
   rw [Array.getElem?_modify, if_pos rfl, hbk]
   rfl
  simp only [putCells, Array.size_mapIdx]; exact hsz
 exact absurd hl (hd.2 lo)
theorem c_compactS {H H' : Heap} {id ver n : Nat} {e : TypeId} {l : List (List UInt8)} {K : HV → Heap → Prop} (hn : n = l.length) (hg : hget H id = some (ver, .arr 1 e (l.map .str))) (hle : ∀ j x, hget H' j = some x → hget H j = some x) (hno : hget H' id = none)
  (hK : K (slE eStr (compactS_ l)) H') : ACall Tryd.prog 84 [.ar id ver 1 0 n] H K := by
 subst hn
 have hlen := compactS_le l
 refine ACall.freeze 2 [(id, ver, .arr 1 e ((compactS_ l ++ List.replicate (l.length - (compactS_ l).length) []).map .str))] H' (w_compS hg ⟨fun j x hx => ?_, fun j x hx => ?_, ?_⟩)
 ·rw [hget_hset, if_neg (fun e => by rw [e, hno] at hx; cases hx)]
  exact hle j x hx
 ·simp only [hget] at hx
  split at hx
  ·rename_i e
   subst e
   cases hx
   exact ⟨by rw [hget_hset, if_pos rfl], hno⟩
  cases hx
 have : frz 2 [(id, ver, .arr 1 e ((compactS_ l ++ List.replicate (l.length - (compactS_ l).length) []).map .str))] (.ar id ver 1 0 (compactS_ l).length) = slE eStr (compactS_ l) := by
  have h0 : hget [(id, ver, AObj.arr 1 e ((compactS_ l ++ List.replicate (l.length - (compactS_ l).length) []).map .str))] id = some (ver, .arr 1 e ((compactS_ l ++ List.replicate (l.length - (compactS_ l).length) []).map .str)) := by simp only [hget, if_true]
  rw [frz, h0]
  have h1 : ver = ver ∧ 0 + (compactS_ l).length * 1 ≤ ((compactS_ l ++ List.replicate (l.length - (compactS_ l).length) ([] : List UInt8)).map HV.str).length := ⟨rfl, by simp⟩
  refine (if_pos h1).trans ?_
  rw [List.drop_zero, Nat.mul_one, List.map_append, List.take_left' (List.length_map _), List.map_map]
  rfl
 rw [this]
 exact hK
end
open Go.Proofs
theorem q66 (x p : Int) (i : Nat) (c : UInt8) (w : World) (h0 : x ≠ 0) (hA : bits BinOp.and IntKind.u64 x (IntKind.u64.wrap (-x)) = p) (hi : IntKind.u64.wrap (p * 285870213051353865) / 288230376151711744 = (i : Int)) (hi2 : i < 64)
  (hc : w.cell? ⟨2, i, none⟩ = some (.int .u8 (c.toNat : Int))) : Calls Tryd.prog 66 #[.int .u64 x] w fun e w' => e = .returned (.int .i64 (c.toNat : Int)) ∧ w' = w := by
 go_enter Tryd.func66, Tryd.ntmps66
 go_wp2
 go_ret
 refine ⟨?_, rfl⟩
 have : RowKit.wrap64 (c.toNat : Int) = (c.toNat : Int) := by
  have := c.toNat_lt
  unfold RowKit.wrap64
  omega
 rw [this]
 rfl
theorem tz_at : ∀ k, k < 12 → ∃ (i : Nat) (c : UInt8), i < 64 ∧ tab64[i]? = some c ∧ c.toNat = k ∧ IntKind.u64.wrap ((2 : Int) ^ k * 285870213051353865) / 288230376151711744 = (i : Int) := by
 intro k hk
 have h : ∀ k ∈ List.range 12, ∃ i ∈ List.range 64, (tab64[i]?.map UInt8.toNat) = some k ∧ IntKind.u64.wrap ((2 : Int) ^ k * 285870213051353865) / 288230376151711744 = (i : Int) := by decide +kernel
 obtain ⟨i, hi, h1, h2⟩ := h k (List.mem_range.2 hk)
 obtain ⟨c, hc, he⟩ := Option.map_eq_some_iff.1 h1
 exact ⟨i, c, List.mem_range.1 hi, hc, he, h2⟩
theorem w_math_bits_TrailingZeros64 {x r : Int} (h : m_math_bits_TrailingZeros64 x = some r) : Pure Tryd.prog 66 [HV.int .u64 x] (· = HV.int .i64 r) := by
 unfold m_math_bits_TrailingZeros64 at h
 split at h
 ·rename_i hx
  cases h
  obtain ⟨n, rfl⟩ := Int.eq_ofNat_of_zero_le (show 0 ≤ x by omega)
  obtain ⟨h1, h2⟩ := tz_chk (n := n) (by omega) (by omega)
  obtain ⟨i, c, hi, hc, he, hm⟩ := tz_at (tzN n) h2
  refine ⟨enters' Tryd.func66 rfl rfl, fun μ w vs hs hr hgl => ?_⟩
  obtain ⟨v, xs, rfl, ⟨rfl, _⟩, hn⟩ := hr
  cases hn
  have hcell := (hgl.2 _ (.head _) i c hc).1
  refine (q66 (n : Int) _ i c w (by omega) ?_ hm hi hcell).mono ?_
  ·show IntKind.u64.wrap (((BitVec.ofInt 64 (n : Int) &&& BitVec.ofInt 64 (IntKind.u64.wrap (-(n : Int)))).toNat : Nat) : Int) = 2 ^ tzN n
   have e1 : IntKind.u64.wrap (-(n : Int)) = ((2 ^ 64 - n : Nat) : Int) := by
    simp only [IntKind.wrap, IntKind.signed, IntKind.bits, Bool.false_and, Bool.false_eq_true, if_false]
    omega
   have e2 : (BitVec.ofInt 64 (n : Int)).toNat = n := by rw [BitVec.toNat_ofInt]; omega
   have e3 : (BitVec.ofInt 64 ((2 ^ 64 - n : Nat) : Int)).toNat = 2 ^ 64 - n := by rw [BitVec.toNat_ofInt]; omega
   rw [e1, BitVec.toNat_and, e2, e3, h1]
   have hp : 2 ^ tzN n < 2 ^ 64 := Nat.pow_lt_pow_right (by decide) (by omega)
   have e4 : ((2 ^ tzN n : Nat) : Int) = (2 : Int) ^ tzN n := by rw [Int.natCast_pow]; rfl
   rw [← e4]
   simp only [IntKind.wrap, IntKind.signed, IntKind.bits, Bool.false_and, Bool.false_eq_true, if_false]
   omega
  rintro e w' ⟨rfl, rfl⟩
  rw [he]
  exact ⟨_, .int .i64 (tzN n : Int), [], μ, rfl, ⟨rfl, trivial, rfl⟩, hs, ⟨rfl, by simp [Lit.wf, IntKind.min, IntKind.max, IntKind.signed, IntKind.bits]; omega⟩, Evo.refl _ _⟩
 cases h
def oc1 (x : Int) : Int := IntKind.u64.wrap (bits BinOp.and IntKind.u64 (x / 2) 6148914691236517205 + bits BinOp.and IntKind.u64 x 6148914691236517205)
def oc2 (x : Int) : Int := IntKind.u64.wrap (bits BinOp.and IntKind.u64 (x / 4) 3689348814741910323 + bits BinOp.and IntKind.u64 x 3689348814741910323)
def oc3 (x : Int) : Int := bits BinOp.and IntKind.u64 (IntKind.u64.wrap (x / 16 + x)) 1085102592571150095
def oc4 (x : Int) : Int := IntKind.u64.wrap (x + x / 256)
def oc5 (x : Int) : Int := IntKind.u64.wrap (x + x / 65536)
def oc6 (x : Int) : Int := IntKind.u64.wrap (x + x / 4294967296)
def oc7 (x : Int) : Int := bits BinOp.and IntKind.i64 (RowKit.wrap64 x) 127
theorem q54 (x : Int) (w : World) : Calls Tryd.prog 54 #[.int .u64 x] w fun e w' => e = .returned (.int .i64 (oc7 (oc6 (oc5 (oc4 (oc3 (oc2 (oc1 x)))))))) ∧ w' = w := by
 go_enter Tryd.func54, Tryd.ntmps54
 go_wp2
 go_ret
 exact ⟨rfl, rfl⟩
theorem oc_all {n : Nat} (h : n < 4096) : oc7 (oc6 (oc5 (oc4 (oc3 (oc2 (oc1 (n : Int))))))) = (pcN n : Int) := by
 have h2 : tzAll (fun n => decide (oc7 (oc6 (oc5 (oc4 (oc3 (oc2 (oc1 (n : Int))))))) = (pcN n : Int))) 12 0 = true := by decide +kernel
 exact of_decide_eq_true (tzAll_spec 12 0 h2 n (by omega) (by omega))
theorem pc_le (n : Nat) : pcN n ≤ 12 := List.length_filter_le _ _
theorem w_math_bits_OnesCount64 {x r : Int} (h : m_math_bits_OnesCount64 x = some r) : Pure Tryd.prog 54 [HV.int .u64 x] (· = HV.int .i64 r) := by
 unfold m_math_bits_OnesCount64 at h
 split at h
 ·rename_i hx
  cases h
  obtain ⟨n, rfl⟩ := Int.eq_ofNat_of_zero_le hx.1
  refine ⟨enters' Tryd.func54 rfl rfl, fun μ w vs hs hr hgl => ?_⟩
  obtain ⟨v, xs, rfl, ⟨rfl, _⟩, hn⟩ := hr
  cases hn
  refine (q54 (n : Int) w).mono ?_
  rintro e w' ⟨rfl, rfl⟩
  rw [oc_all (by omega)]
  have := pc_le n
  exact ⟨_, .int .i64 (pcN n : Int), [], μ, rfl, ⟨rfl, trivial, rfl⟩, hs, ⟨rfl, by simp [Lit.wf, IntKind.min, IntKind.max, IntKind.signed, IntKind.bits]; omega⟩, Evo.refl _ _⟩
 cases h
theorem cmpB_abs : ∀ a b : List UInt8, -1 ≤ Lib.compareBytes a b ∧ Lib.compareBytes a b ≤ 1
 | [], [] => by simp [Lib.compareBytes]
 | [], _ :: _ => by simp [Lib.compareBytes]
 | _ :: _, [] => by simp [Lib.compareBytes]
 | a :: l, b :: m => by
  unfold Lib.compareBytes
  split
  ·omega
  split
  ·omega
  exact cmpB_abs l m
theorem w_internal_bytealg_CompareString {a b : List UInt8} {r : Int} (h : m_internal_bytealg_CompareString a b = some r) : Pure Tryd.prog 71 [HV.str a, HV.str b] (· = HV.int .i64 r) := by
 cases h
 refine ⟨enters' Tryd.func71 rfl rfl, fun μ w vs hs hr hgl => ?_⟩
 obtain ⟨v, xs, rfl, ⟨rfl, _⟩, v2, xs2, rfl, ⟨rfl, _⟩, hn⟩ := hr
 cases hn
 refine (q71 ⟨a.toArray⟩ ⟨b.toArray⟩ w).mono ?_
 rintro e w' ⟨rfl, rfl⟩
 have := cmpB_abs a b
 exact ⟨_, .int .i64 (Lib.compareBytes a b), [], μ, rfl, ⟨rfl, trivial, rfl⟩, hs, ⟨rfl, by simp [Lit.wf, IntKind.min, IntKind.max, IntKind.signed, IntKind.bits]; omega⟩, Evo.refl _ _⟩
def letters : List UInt8 := [48, 49, 50, 51, 52, 53, 54, 55, 56, 57, 97, 98, 99, 100, 101, 102]
section
variable {stp : List Int → UInt8 → List Int} {cs : List UInt8} {set : List Int}
end
set_option linter.unusedVariables false
noncomputable def m_slices_Equal_Lint_int (p0 : List (Int)) (p1 : List (Int)) : Option (Bool) :=
 if ((p0).length : Int) ≠ ((p1).length : Int) then
  some false
 else
  lpO (loopW (S := Int) (X := Ou (Unit) (Bool)) (fun a1 =>
    if a1 < ((p0).length : Int) then
     (idx p0 a1).bind fun x5 =>
     (idx p1 a1).bind fun x7 =>
     if x5 ≠ x7 then
      some (Stp.exit (Ou.ret false))
     else
      some (Stp.next (IntKind.wrap .i64 (a1 + 1)))
    else
     some (Stp.exit (Ou.go ()))) 0) (fun a9 =>
    some true) some
noncomputable def m_slices_Equal_Lstring_string (p0 : List (List UInt8)) (p1 : List (List UInt8)) : Option (Bool) :=
 if ((p0).length : Int) ≠ ((p1).length : Int) then
  some false
 else
  lpO (loopW (S := Int) (X := Ou (Unit) (Bool)) (fun a1 =>
    if a1 < ((p0).length : Int) then
     (idx p0 a1).bind fun x5 =>
     (idx p1 a1).bind fun x7 =>
     if x5 ≠ x7 then
      some (Stp.exit (Ou.ret false))
     else
      some (Stp.next (IntKind.wrap .i64 (a1 + 1)))
    else
     some (Stp.exit (Ou.go ()))) 0) (fun a9 =>
    some true) some
noncomputable def m_slices_Index_Lstring_string (p0 : List (List UInt8)) (p1 : List UInt8) : Option (Int) :=
 lpO (loopW (S := Int) (X := Ou (Unit) (Int)) (fun a1 =>
   if a1 < ((p0).length : Int) then
    (idx p0 a1).bind fun x5 =>
    if p1 = x5 then
     some (Stp.exit (Ou.ret a1))
    else
     some (Stp.next (IntKind.wrap .i64 (a1 + 1)))
   else
    some (Stp.exit (Ou.go ()))) 0) (fun a7 =>
   some (-1)) some
noncomputable def m_slices_Index_Lint_int (p0 : List (Int)) (p1 : Int) : Option (Int) :=
 lpO (loopW (S := Int) (X := Ou (Unit) (Int)) (fun a1 =>
   if a1 < ((p0).length : Int) then
    (idx p0 a1).bind fun x5 =>
    if p1 = x5 then
     some (Stp.exit (Ou.ret a1))
    else
     some (Stp.next (IntKind.wrap .i64 (a1 + 1)))
   else
    some (Stp.exit (Ou.go ()))) 0) (fun a7 =>
   some (-1)) some
noncomputable def m_slices_Contains_Lint_int (p0 : List (Int)) (p1 : Int) : Option (Bool) :=
 (m_slices_Index_Lint_int p0 p1).bind fun x1 =>
 some (decide (0 ≤ x1))
abbrev TWordsMerges := (List (List UInt8)) × (List (List UInt8))
noncomputable def m_slices_IndexFunc_Lint_int (p0 : List (Int)) (p1 : Int → Option (Bool)) : Option (Int) :=
 lpO (loopW (S := Int) (X := Ou (Unit) (Int)) (fun a1 =>
     if a1 < ((p0).length : Int) then
      (idx p0 a1).bind fun x5 =>
      (p1 x5).bind fun x7 =>
      if x7 = true then
       some (Stp.exit (Ou.ret a1))
      else
       some (Stp.next (IntKind.wrap .i64 (a1 + 1)))
     else
      some (Stp.exit (Ou.go ()))) 0) (fun a9 =>
     some (-1)) some
noncomputable def m_slices_ContainsFunc_Lint_int (p0 : List (Int)) (p1 : Int → Option (Bool)) : Option (Bool) :=
 (m_slices_IndexFunc_Lint_int p0 p1).bind fun x1 =>
 some (decide (0 ≤ x1))
noncomputable def m_internal_stringslite_HasPrefix (p0 : List UInt8) (p1 : List UInt8) : Option (Bool) :=
 jp (fun (a1 : Bool) =>
   some a1)
   fun k3 =>
  if ((p1).length : Int) ≤ ((p0).length : Int) then
   if 0 ≤ (0 : Int) ∧ (0 : Int) ≤ ((p1).length : Int) ∧ ((p1).length : Int) ≤ (p0.length : Int) then
    k3 (decide (((p0.take (((p1).length : Int)).toNat).drop (0 : Int).toNat) = p1))
   else none
  else
   k3 false
noncomputable def m_strings_HasPrefix (p0 : List UInt8) (p1 : List UInt8) : Option (Bool) :=
 (m_internal_stringslite_HasPrefix p0 p1).bind fun x1 =>
 some x1
abbrev TLettersWords := Int × (List (List UInt8))
abbrev TLettersNext := Int × (List (List (Int)))
abbrev TSetWord := Int × (List UInt8)
abbrev cSetWord (x : TSetWord) : List HV := [HV.int .i64 x.1, HV.str x.2]
abbrev eSetWord : EncL TSetWord := encF 2 cSetWord (fun _ => rfl)
abbrev TSetBeforeLetter := Int × Int × Int
abbrev cSetBeforeLetter (x : TSetBeforeLetter) : List HV := [HV.int .i64 x.1, HV.int .i64 x.2.1, HV.int .i64 x.2.2]
abbrev eSetBeforeLetter : EncL TSetBeforeLetter := encF 3 cSetBeforeLetter (fun _ => rfl)
noncomputable def m_ref33_Great (p0 : TLettersWords) : Option (Bool) :=
 jp (fun (a1 : Bool) =>
   if a1 = true then
    some true
   else
    lpO (loopW (S := Int) (X := Ou (Unit) (Bool)) (fun a4 =>
        if a4 < ((p0.2).length : Int) then
         jp (fun (a8 : Bool) =>
           if a8 = true then
            some (Stp.exit (Ou.ret true))
           else
            some (Stp.next (IntKind.wrap .i64 (a4 + 1))))
           fun k10 =>
          (idx p0.2 a4).bind fun x11 =>
          if 8 < ((x11).length : Int) then
           (idx p0.2 a4).bind fun x13 =>
           if ((x13).length : Int) ≤ 32 then
            k10 true
           else
            (idx p0.2 a4).bind fun x15 =>
            k10 (decide (33 < ((x15).length : Int)))
          else
           (idx p0.2 a4).bind fun x18 =>
           k10 (decide (33 < ((x18).length : Int)))
        else
         some (Stp.exit (Ou.go ()))) 0) (fun a21 =>
        some false) some)
   fun k3 =>
  if 8 < ((p0.2).length : Int) then
   if ((p0.2).length : Int) ≤ 64 then
    k3 true
   else
    k3 (decide (65 < ((p0.2).length : Int)))
  else
   k3 (decide (65 < ((p0.2).length : Int)))
noncomputable def m_cmp_Or_int (p0 : List (Int)) : Option (Int) :=
 lpO (loopW (S := Int) (X := Ou (Unit) (Int)) (fun a1 =>
     if a1 < ((p0).length : Int) then
      (idx p0 a1).bind fun x5 =>
      if x5 ≠ 0 then
       some (Stp.exit (Ou.ret x5))
      else
       some (Stp.next (IntKind.wrap .i64 (a1 + 1)))
     else
      some (Stp.exit (Ou.go ()))) 0) (fun a7 =>
     some 0) some
noncomputable def m_strings_Compare (p0 : List UInt8) (p1 : List UInt8) : Option (Int) :=
 (m_internal_bytealg_CompareString p0 p1).bind fun x1 =>
 some x1
noncomputable def m_code_before (p0 : List UInt8) (p1 : List UInt8) : Option (Int) :=
 (m_cmp_Compare_int ((p0).length : Int) ((p1).length : Int)).bind fun x1 =>
 (m_strings_Compare p0 p1).bind fun x3 =>
 (m_cmp_Or_int [x1, x3]).bind fun x5 =>
 some x5
noncomputable def m_code_Check (p0 : TLettersWords) : Option (Int) :=
 jp (fun (a1 : Bool) =>
   if a1 = true then
    some 12
   else
    if ((p0.2).length : Int) = 0 then
     some 5
    else
     if 64 < ((p0.2).length : Int) then
      some 4
     else
      lpO (loopW (S := Int) (X := Ou (Unit) (Int)) (fun a4 =>
          if a4 < ((p0.2).length : Int) then
           (idx p0.2 a4).bind fun x8 =>
           if x8 = ([] : List UInt8) then
            some (Stp.exit (Ou.ret 5))
           else
            if 32 < ((x8).length : Int) then
             some (Stp.exit (Ou.ret 4))
            else
             (m_word_Check p0.1 x8).bind fun x10 =>
             if x10 ≠ 0 then
              some (Stp.exit (Ou.ret 13))
             else
              jp (fun (a12 : Bool) =>
                if a12 = true then
                 some (Stp.exit (Ou.ret 10))
                else
                 some (Stp.next (IntKind.wrap .i64 (a4 + 1))))
                fun k14 =>
               if 0 < a4 then
                (idx p0.2 (IntKind.wrap .i64 (a4 - 1))).bind fun x15 =>
                (m_code_before x15 x8).bind fun x17 =>
                k14 (decide (0 ≤ x17))
               else
                k14 false
          else
           some (Stp.exit (Ou.go ()))) 0) (fun a20 =>
          some 0) some)
   fun k3 =>
  if p0.1 < 2 then
   k3 true
  else
   k3 (decide (16 < p0.1))
noncomputable def m_code_alone (p0 : TLettersWords) : Option (Bool × Int) :=
 (m_code_Check p0).bind fun x1 =>
 if x1 ≠ 0 then
  some (false, 1)
 else
  lpO (loopW (S := Int) (X := Ou (Unit) (Bool × Int)) (fun a3 =>
      if a3 < ((p0.2).length : Int) then
       (idx p0.2 a3).bind fun x7 =>
       lpO (loopW (S := Int) (X := Ou (Unit) (Bool × Int)) (fun a9 =>
           if a9 < ((p0.2).length : Int) then
            (idx p0.2 a9).bind fun x13 =>
            jp (fun (a15 : Bool) =>
              if a15 = true then
               some (Stp.exit (Ou.ret (false, 0)))
              else
               some (Stp.next (IntKind.wrap .i64 (a9 + 1))))
              fun k17 =>
             if a3 ≠ a9 then
              (m_strings_HasPrefix x7 x13).bind fun x18 =>
              k17 x18
             else
              k17 false
           else
            some (Stp.exit (Ou.go ()))) 0) (fun a21 =>
           some (Stp.next (IntKind.wrap .i64 (a3 + 1)))) (fun r => some (Stp.exit (Ou.ret r)))
      else
       some (Stp.exit (Ou.go ()))) 0) (fun a23 =>
      some (true, 0)) some
noncomputable def m_code_Prefix (p0 : TLettersWords) : Option (Bool × Int) :=
 (m_code_alone p0).bind fun x1 =>
 some (x1.1, x1.2)
noncomputable def m_parser_prefix (p0 : TLettersWords) : Option (Bool) :=
 (m_code_Prefix p0).bind fun x1 =>
 jp (fun (a3 : Bool) =>
   some a3)
   fun k5 =>
  if x1.2 = 0 then
   k5 x1.1
  else
   k5 false
noncomputable def m_parser_build (p0 : TLettersWords) : Option (TLettersPrefixesNextEmit) :=
 (loopW (S := Int × (List (List UInt8 × Int)) × (List (List UInt8))) (X := (List (List UInt8 × Int)) × (List (List UInt8))) (fun a4 =>
     if a4.1 < ((p0.2).length : Int) then
      (idx p0.2 a4.1).bind fun x8 =>
      (loopW (S := Int × (List (List UInt8 × Int)) × (List (List UInt8))) (X := (List (List UInt8 × Int)) × (List (List UInt8))) (fun a10 =>
          if a10.1 < ((x8).length : Int) then
           jp (fun (a14 : (List (List UInt8 × Int)) × (List (List UInt8))) =>
             some (Stp.next (IntKind.wrap .i64 (a10.1 + 1), a14.1, a14.2)))
             fun k16 =>
            if 0 ≤ (0 : Int) ∧ (0 : Int) ≤ a10.1 ∧ a10.1 ≤ (x8.length : Int) then
             if (!((mlook ((x8.take (a10.1).toNat).drop (0 : Int).toNat) a10.2.1).isSome)) = true then
              if 0 ≤ (0 : Int) ∧ (0 : Int) ≤ a10.1 ∧ a10.1 ≤ (x8.length : Int) then
               if 0 ≤ (0 : Int) ∧ (0 : Int) ≤ a10.1 ∧ a10.1 ≤ (x8.length : Int) then
                if fits 16 ((a10.2.2 : List (List UInt8)).length + ([(x8.take (a10.1).toNat).drop (0 : Int).toNat]).length) then
                 k16 (mputN ((x8.take (a10.1).toNat).drop (0 : Int).toNat) 0 a10.2.1, a10.2.2 ++ [(x8.take (a10.1).toNat).drop (0 : Int).toNat])
                else none
               else none
              else none
             else
              k16 (a10.2.1, a10.2.2)
            else none
          else
           some (Stp.exit (a10.2.1, a10.2.2))) (0, a4.2.1, a4.2.2)).bind fun a22 =>
      some (Stp.next (IntKind.wrap .i64 (a4.1 + 1), a22.1, a22.2))
     else
      some (Stp.exit (a4.2.1, a4.2.2))) (0, ([] : List (List UInt8 × Int)), ([] : List (List UInt8)))).bind fun a25 =>
 if (a25.2).length < 4611686018427387904 then
  (loopW (S := Int × (List (List UInt8 × Int))) (X := (List (List UInt8 × Int))) (fun a28 =>
      if a28.1 < (((sortW a25.2).length : Nat) : Int) then
       (idx (sortW a25.2) a28.1).bind fun x32 =>
       (idx (sortW a25.2) a28.1).bind fun x34 =>
       some (Stp.next (IntKind.wrap .i64 (a28.1 + 1), mputN x34 a28.1 a28.2))
      else
       some (Stp.exit a28.2)) (0, a25.1)).bind fun a36 =>
  (loopW (S := Int × (List (List (Int))) × (List (List (Int)))) (X := (List (List (Int))) × (List (List (Int)))) (fun a38 =>
      if a38.1 < (((sortW a25.2).length : Nat) : Int) then
       (idx (sortW a25.2) a38.1).bind fun x42 =>
       (idx (sortW a25.2) a38.1).bind fun x44 =>
       if 0 ≤ (p0.1 : Int) ∧ (p0.1 : Int) ≤ p0.1 ∧ (p0.1 : Int) * 8 ≤ 281474976710656 then
        if 0 ≤ (p0.1 : Int) ∧ (p0.1 : Int) ≤ p0.1 ∧ (p0.1 : Int) * 8 ≤ 281474976710656 then
         (loopW (S := Int × (List Int) × (List Int)) (X := (List Int) × (List Int)) (fun a47 =>
             if a47.1 < p0.1 then
              jp (fun (a51 : (List Int) × (List Int)) =>
                some (Stp.next (IntKind.wrap .i64 (a47.1 + 1), a51.1, a51.2)))
                fun k53 =>
               if 0 ≤ (a47.1 : Int) ∧ (a47.1 : Int) ≤ IntKind.wrap .i64 (a47.1 + 1) ∧ IntKind.wrap .i64 (a47.1 + 1) ≤ (([48, 49, 50, 51, 52, 53, 54, 55, 56, 57, 97, 98, 99, 100, 101, 102] : List UInt8).length : Int) then
                if x44.length + ((([48, 49, 50, 51, 52, 53, 54, 55, 56, 57, 97, 98, 99, 100, 101, 102] : List UInt8).take (IntKind.wrap .i64 (a47.1 + 1)).toNat).drop (a47.1).toNat).length ≤ maxLen then
                 (m_slices_Index_Lstring_string p0.2 (x44 ++ ((([48, 49, 50, 51, 52, 53, 54, 55, 56, 57, 97, 98, 99, 100, 101, 102] : List UInt8).take (IntKind.wrap .i64 (a47.1 + 1)).toNat).drop (a47.1).toNat))).bind fun x56 =>
                 (idx a47.2.1 a47.1).bind fun x58 =>
                 (idx a47.2.2 a47.1).bind fun x60 =>
                 jp (fun (a62 : (List Int)) =>
                   (idx ((a47.2.2).set (a47.1).toNat x56) a47.1).bind fun x65 =>
                   (idx ((a47.2.2).set (a47.1).toNat x56) a47.1).bind fun x67 =>
                   if 0 ≤ x67 then
                    (idx a62 a47.1).bind fun x69 =>
                    k53 ((a62).set (a47.1).toNat 0, (a47.2.2).set (a47.1).toNat x56)
                   else
                    k53 (a62, (a47.2.2).set (a47.1).toNat x56))
                   fun k64 =>
                  if ((mlook (x44 ++ ((([48, 49, 50, 51, 52, 53, 54, 55, 56, 57, 97, 98, 99, 100, 101, 102] : List UInt8).take (IntKind.wrap .i64 (a47.1 + 1)).toNat).drop (a47.1).toNat)) a36).isSome) = true then
                   (idx ((a47.2.1).set (a47.1).toNat (-1)) a47.1).bind fun x71 =>
                   k64 (((a47.2.1).set (a47.1).toNat (-1)).set (a47.1).toNat ((mlook (x44 ++ ((([48, 49, 50, 51, 52, 53, 54, 55, 56, 57, 97, 98, 99, 100, 101, 102] : List UInt8).take (IntKind.wrap .i64 (a47.1 + 1)).toNat).drop (a47.1).toNat)) a36).getD 0))
                  else
                   k64 ((a47.2.1).set (a47.1).toNat (-1))
                else none
               else none
             else
              some (Stp.exit (a47.2.1, a47.2.2))) (0, List.replicate (p0.1).toNat (0 : Int), List.replicate (p0.1).toNat (0 : Int))).bind fun a73 =>
         if fits 24 ((a38.2.1 : List (List (Int))).length + ([a73.1]).length) then
          if fits 24 ((a38.2.2 : List (List (Int))).length + ([a73.2]).length) then
           some (Stp.next (IntKind.wrap .i64 (a38.1 + 1), a38.2.1 ++ [a73.1], a38.2.2 ++ [a73.2]))
          else none
         else none
        else none
       else none
      else
       some (Stp.exit (a38.2.1, a38.2.2))) (0, ([] : List (List (Int))), ([] : List (List (Int))))).bind fun a78 =>
  some (p0.1, sortW a25.2, a78.1, a78.2)
 else none
noncomputable def m_parser_Build (p0 : TLettersWords) : Option (TLettersPrefixesNextEmit × Int) :=
 (m_code_Check p0).bind fun x2 =>
 if x2 ≠ 0 then
  some ((0, [], [], []), 1)
 else
  (m_parser_prefix p0).bind fun x4 =>
  if (!x4) = true then
   some ((0, [], [], []), 8)
  else
   (m_parser_build p0).bind fun x6 =>
   some (x6, 0)
noncomputable def m_parser_Automaton_1 (p0 : List (Int)) : Option (Bool) :=
 (m_slices_Contains_Lint_int p0 (-1)).bind fun x1 =>
 some x1
noncomputable def m_slices_IndexFunc_LLint_Lint (p0 : List (List (Int))) (p1 : (List (Int)) → Option (Bool)) : Option (Int) :=
 lpO (loopW (S := Int) (X := Ou (Unit) (Int)) (fun a1 =>
     if a1 < ((p0).length : Int) then
      (idx p0 a1).bind fun x5 =>
      (p1 x5).bind fun x7 =>
      if x7 = true then
       some (Stp.exit (Ou.ret a1))
      else
       some (Stp.next (IntKind.wrap .i64 (a1 + 1)))
     else
      some (Stp.exit (Ou.go ()))) 0) (fun a9 =>
     some (-1)) some
noncomputable def m_slices_ContainsFunc_LLint_Lint (p0 : List (List (Int))) : Option (Bool) :=
 (m_slices_IndexFunc_LLint_Lint p0 (fun b0 => m_parser_Automaton_1 b0 )).bind fun x1 =>
 some (decide (0 ≤ x1))
noncomputable def m_parser_Automaton (p0 : TLettersWords) : Option (TLettersNext × Int) :=
 (m_parser_Build p0).bind fun x2 =>
 if x2.2 ≠ 0 then
  some ((0, []), x2.2)
 else
  (m_slices_ContainsFunc_LLint_Lint x2.1.2.2.1).bind fun x5 =>
  if x5 = true then
   some ((0, []), 8)
  else
   some ((x2.1.1, x2.1.2.2.1), 0)
noncomputable def m_top_top45Machine (p0 : TLettersWords) : Option (TLettersPrefixesNextEmit × TLettersNext × Bool) :=
 jp (fun (a3 : Bool) =>
   if a3 = true then
    some ((0, [], [], []), (0, []), false)
   else
    (m_parser_Automaton p0).bind fun x6 =>
    jp (fun (a9 : Bool) =>
      if a9 = true then
       some ((0, [], [], []), (0, []), false)
      else
       (m_parser_Build p0).bind fun x12 =>
       some (x12.1, x6.1, decide (x12.2 = 0)))
      fun k11 =>
     if x6.2 ≠ 0 then
      k11 true
     else
      k11 (decide (12 < ((x6.1.2).length : Int))))
   fun k5 =>
  (m_ref33_Great p0).bind fun x17 =>
  if x17 = true then
   k5 true
  else
   k5 (decide (8 < p0.1))
noncomputable def m_reset_Check_1 (p0 : Int) (c0 : TLettersNext) : Option (Bool) :=
 jp (fun (a1 : Bool) =>
   some a1)
   fun k3 =>
  if p0 < 0 then
   k3 true
  else
   k3 (decide (((c0.2).length : Int) ≤ p0))
noncomputable def m_reset_Check (p0 : TLettersNext) : Option (Int) :=
 jp (fun (a1 : Bool) =>
   if a1 = true then
    some 12
   else
    if ((p0.2).length : Int) = 0 then
     some 5
    else
     if 16 < ((p0.2).length : Int) then
      some 4
     else
      lpO (loopW (S := Int) (X := Ou (Unit) (Int)) (fun a4 =>
          if a4 < ((p0.2).length : Int) then
           (idx p0.2 a4).bind fun x8 =>
           if ((x8).length : Int) ≠ p0.1 then
            some (Stp.exit (Ou.ret 11))
           else
            (m_slices_ContainsFunc_Lint_int x8 (fun b0 => m_reset_Check_1 b0 p0)).bind fun x10 =>
            if x10 = true then
             some (Stp.exit (Ou.ret 25))
            else
             some (Stp.next (IntKind.wrap .i64 (a4 + 1)))
          else
           some (Stp.exit (Ou.go ()))) 0) (fun a12 =>
          some 0) some)
   fun k3 =>
  if p0.1 < 1 then
   k3 true
  else
   k3 (decide (8 < p0.1))
noncomputable def m_math_bits_OnesCount (p0 : Int) : Option (Int) :=
 (m_math_bits_OnesCount64 p0).bind fun x1 =>
 some x1
noncomputable def m_reset_single (p0 : Int) : Option (Bool) :=
 (m_math_bits_OnesCount (IntKind.wrap .u64 p0)).bind fun x1 =>
 some (decide (x1 = 1))
noncomputable def m_math_bits_TrailingZeros (p0 : Int) : Option (Int) :=
 (m_math_bits_TrailingZeros64 p0).bind fun x1 =>
 some x1
noncomputable def m_reset_step (p0 : TLettersNext) (p1 : Int) (p2 : Int) : Option (Int) :=
 (loopW (S := Int × Int) (X := Int) (fun a1 =>
     if 0 < a1.2 then
      (m_math_bits_TrailingZeros a1.2).bind fun x5 =>
      (idx p0.2 x5).bind fun x7 =>
      (idx x7 p2).bind fun x9 =>
      if 0 ≤ x9 then
       some (Stp.next (IntKind.wrap .i64 (BitVec.ofInt (IntKind.bits .i64) a1.1 ||| BitVec.ofInt (IntKind.bits .i64) (IntKind.wrap .i64 (1 * 2 ^ (min (x9).toNat (IntKind.bits .i64))))).toNat, IntKind.wrap .u64 (BitVec.ofInt (IntKind.bits .u64) a1.2 &&& BitVec.ofInt (IntKind.bits .u64) (IntKind.wrap .u64 (a1.2 - 1))).toNat))
      else none
     else
      some (Stp.exit a1.1)) (0, IntKind.wrap .u64 p1)).bind fun a12 =>
 some a12
noncomputable def m_reset_search (p0 : TLettersNext) (p1 : Int) : Option ((List UInt8) × Bool) :=
 (kset wfInt p1 true ([] : List (Int × Bool))).bind fun x4 =>
 lpO (loopW (S := (List TSetWord) × (List (Int × Bool))) (X := Ou (Unit) ((List UInt8) × Bool)) (fun a8 =>
     if 0 < (((a8.1).length : Nat) : Int) then
      (idx a8.1 0).bind fun x12 =>
      (idx a8.1 (0 : Int)).bind fun x14 =>
      if 1 ≤ (a8.1).length then
       (m_reset_single x14.1).bind fun x20 =>
       if x20 = true then
        some (Stp.exit (Ou.ret (x14.2, true)))
       else
        jp (fun (a22 : (List TSetWord) × (List (Int × Bool))) =>
          some (Stp.next (a22.1, a22.2)))
          fun k24 =>
         (loopW (S := Int × (List TSetWord) × (List (Int × Bool))) (X := (List TSetWord) × (List (Int × Bool))) (fun a25 =>
             if a25.1 < p0.1 then
              jp (fun (a29 : (List TSetWord) × (List (Int × Bool))) =>
                some (Stp.next (IntKind.wrap .i64 (a25.1 + 1), a29.1, a29.2)))
                fun k31 =>
               (m_reset_step p0 x14.1 a25.1).bind fun x32 =>
               (kget wfInt x32 false a25.2.2).bind fun x34 =>
               if (!x34) = true then
                (kset wfInt x32 true a25.2.2).bind fun x36 =>
                jp (fun (a39 : Unit) =>
                  k31 (a25.2.1 ++ [(x32, x14.2 ++ ((([48, 49, 50, 51, 52, 53, 54, 55, 56, 57, 97, 98, 99, 100, 101, 102] : List UInt8).take (IntKind.wrap .i64 (a25.1 + 1)).toNat).drop (a25.1).toNat))], x36))
                  fun k41 =>
                 if 0 ≤ (a25.1 : Int) ∧ (a25.1 : Int) ≤ IntKind.wrap .i64 (a25.1 + 1) ∧ IntKind.wrap .i64 (a25.1 + 1) ≤ (([48, 49, 50, 51, 52, 53, 54, 55, 56, 57, 97, 98, 99, 100, 101, 102] : List UInt8).length : Int) then
                  if x14.2.length + ((([48, 49, 50, 51, 52, 53, 54, 55, 56, 57, 97, 98, 99, 100, 101, 102] : List UInt8).take (IntKind.wrap .i64 (a25.1 + 1)).toNat).drop (a25.1).toNat).length ≤ maxLen then
                   if fits 24 ((a25.2.1 : List TSetWord).length + ([(x32, x14.2 ++ ((([48, 49, 50, 51, 52, 53, 54, 55, 56, 57, 97, 98, 99, 100, 101, 102] : List UInt8).take (IntKind.wrap .i64 (a25.1 + 1)).toNat).drop (a25.1).toNat))]).length) then
                    k41 ()
                   else none
                  else none
                 else none
               else
                k31 (a25.2.1, a25.2.2)
             else
              some (Stp.exit (a25.2.1, a25.2.2))) (0, (a8.1).drop 1, a8.2)).bind fun a47 =>
         k24 (a47.1, a47.2)
      else none
     else
      some (Stp.exit (Ou.go ()))) ([(p1, ([] : List UInt8))], x4)) (fun a49 =>
     some (([] : List UInt8), false)) some
noncomputable def m_reset_all (p0 : TLettersNext) : Option (Int) :=
 if 0 ≤ ((p0.2).length : Int) then
  some (IntKind.wrap .i64 ((IntKind.wrap .i64 (1 * 2 ^ (min (((p0.2).length : Int)).toNat (IntKind.bits .i64)))) - 1))
 else none
noncomputable def m_reset_Shortest (p0 : TLettersNext) : Option ((List UInt8) × Bool × Int) :=
 (m_reset_Check p0).bind fun x1 =>
 if x1 ≠ 0 then
  some (([] : List UInt8), false, 1)
 else
  (m_reset_all p0).bind fun x3 =>
  (m_reset_search p0 x3).bind fun x5 =>
  some (x5.1, x5.2, 0)
noncomputable def m_top_top45Awake  : Option (Bool) :=
 (m_parser_Automaton (2, [[48], [49, 48], [49, 49]])).bind fun x1 =>
 (m_reset_Shortest x1.1).bind fun x4 =>
 jp (fun (a6 : Bool) =>
   some a6)
   fun k8 =>
  if x1.2 = 0 then
   if x4.2.2 = 0 then
    if x4.2.1 = true then
     k8 (decide (x4.1 = [48]))
    else
     k8 false
   else
    k8 false
  else
   k8 false
noncomputable def m_resync_build (p0 : TLettersWords) (p1 : List (List UInt8)) : Option (TLettersPrefixesNextEmit × Int) :=
 (m_parser_Automaton p0).bind fun x2 =>
 if x2.2 ≠ 0 then
  some ((0, [], [], []), x2.2)
 else
  (m_parser_Build p0).bind fun x5 =>
  if x5.2 ≠ 0 then
   some ((0, [], [], []), x5.2)
  else
   if 64 < ((x5.1.2.1).length : Int) then
    some ((0, [], [], []), 4)
   else
    lpO (loopW (S := Int) (X := Ou (Unit) (TLettersPrefixesNextEmit × Int)) (fun a8 =>
        if a8 < ((p1).length : Int) then
         (idx p1 a8).bind fun x12 =>
         (m_word_Check p0.1 x12).bind fun x14 =>
         if x14 ≠ 0 then
          some (Stp.exit (Ou.ret ((0, [], [], []), x14)))
         else
          some (Stp.next (IntKind.wrap .i64 (a8 + 1)))
        else
         some (Stp.exit (Ou.go ()))) 0) (fun a16 =>
        some (x5.1, 0)) some
noncomputable def m_resync_Synchronizing (p0 : TLettersWords) : Option ((List UInt8) × Bool × Int) :=
 (m_resync_build p0 []).bind fun x1 =>
 if x1.2 ≠ 0 then
  some (([] : List UInt8), false, x1.2)
 else
  if 16 < ((x1.1.2.1).length : Int) then
   some (([] : List UInt8), false, 4)
  else
   if 0 ≤ ((x1.1.2.1).length : Int) then
    if 0 ≤ ((x1.1.2.1).length : Int) then
     if 0 ≤ (IntKind.wrap .i64 (1 * 2 ^ (min (((x1.1.2.1).length : Int)).toNat (IntKind.bits .i64))) : Int) ∧ (IntKind.wrap .i64 (1 * 2 ^ (min (((x1.1.2.1).length : Int)).toNat (IntKind.bits .i64))) : Int) ≤ IntKind.wrap .i64 (1 * 2 ^ (min (((x1.1.2.1).length : Int)).toNat (IntKind.bits .i64))) ∧ (IntKind.wrap .i64 (1 * 2 ^ (min (((x1.1.2.1).length : Int)).toNat (IntKind.bits .i64))) : Int) * 1 ≤ 281474976710656 then
      if 0 ≤ ((x1.1.2.1).length : Int) then
       (idx (List.replicate (IntKind.wrap .i64 (1 * 2 ^ (min (((x1.1.2.1).length : Int)).toNat (IntKind.bits .i64)))).toNat (false : Bool)) (IntKind.wrap .i64 ((IntKind.wrap .i64 (1 * 2 ^ (min (((x1.1.2.1).length : Int)).toNat (IntKind.bits .i64)))) - 1))).bind fun x10 =>
       lpO (loopW (S := Int × (List TSetBeforeLetter) × (List Bool)) (X := Ou (Unit) ((List UInt8) × Bool × Int)) (fun a12 =>
           if a12.1 < (((a12.2.1).length : Nat) : Int) then
            (idx a12.2.1 a12.1).bind fun x16 =>
            (idx a12.2.1 a12.1).bind fun x18 =>
            if x18.1 = 1 then
             (loopW (S := (List UInt8) × Int) (X := (List UInt8)) (fun a20 =>
                 (idx a12.2.1 a20.2).bind fun x24 =>
                 (idx a12.2.1 a20.2).bind fun x26 =>
                 if x26.2.1 ≠ (-1) then
                  (idx a12.2.1 a20.2).bind fun x28 =>
                  (idx a12.2.1 a20.2).bind fun x30 =>
                  (idx a12.2.1 a20.2).bind fun x32 =>
                  (idx a12.2.1 a20.2).bind fun x34 =>
                  if 0 ≤ (x30.2.2 : Int) ∧ (x30.2.2 : Int) ≤ IntKind.wrap .i64 (x34.2.2 + 1) ∧ IntKind.wrap .i64 (x34.2.2 + 1) ≤ (([48, 49, 50, 51, 52, 53, 54, 55, 56, 57, 97, 98, 99, 100, 101, 102] : List UInt8).length : Int) then
                   if ((([48, 49, 50, 51, 52, 53, 54, 55, 56, 57, 97, 98, 99, 100, 101, 102] : List UInt8).take (IntKind.wrap .i64 (x34.2.2 + 1)).toNat).drop (x30.2.2).toNat).length + a20.1.length ≤ maxLen then
                    (idx a12.2.1 a20.2).bind fun x38 =>
                    (idx a12.2.1 a20.2).bind fun x40 =>
                    some (Stp.next (((([48, 49, 50, 51, 52, 53, 54, 55, 56, 57, 97, 98, 99, 100, 101, 102] : List UInt8).take (IntKind.wrap .i64 (x34.2.2 + 1)).toNat).drop (x30.2.2).toNat) ++ a20.1, x40.2.1))
                   else none
                  else none
                 else
                  some (Stp.exit a20.1)) (([] : List UInt8), a12.1)).bind fun a42 =>
             some (Stp.exit (Ou.ret (a42, true, 0)))
            else
             (loopW (S := Int × (List TSetBeforeLetter) × (List Bool)) (X := (List TSetBeforeLetter) × (List Bool)) (fun a44 =>
                 if a44.1 < x1.1.1 then
                  jp (fun (a48 : (List TSetBeforeLetter) × (List Bool)) =>
                    some (Stp.next (IntKind.wrap .i64 (a44.1 + 1), a48.1, a48.2)))
                    fun k50 =>
                   (loopW (S := Int × Int) (X := Int) (fun a51 =>
                       if a51.2 < ((x1.1.2.1).length : Int) then
                        jp (fun (a55 : Int) =>
                          some (Stp.next (a55, IntKind.wrap .i64 (a51.2 + 1))))
                          fun k57 =>
                         (idx a44.2.1 a12.1).bind fun x58 =>
                         (idx a44.2.1 a12.1).bind fun x60 =>
                         if 0 ≤ a51.2 then
                          if (IntKind.wrap .i64 (BitVec.ofInt (IntKind.bits .i64) (Int.fdiv x60.1 (2 ^ (min (a51.2).toNat (IntKind.bits .i64)))) &&& BitVec.ofInt (IntKind.bits .i64) 1).toNat) = 1 then
                           (idx x1.1.2.2.1 a51.2).bind fun x63 =>
                           (idx x63 a44.1).bind fun x65 =>
                           if 0 ≤ x65 then
                            k57 (IntKind.wrap .i64 (BitVec.ofInt (IntKind.bits .i64) a51.1 ||| BitVec.ofInt (IntKind.bits .i64) (IntKind.wrap .i64 (1 * 2 ^ (min (x65).toNat (IntKind.bits .i64))))).toNat)
                           else none
                          else
                           k57 a51.1
                         else none
                       else
                        some (Stp.exit a51.1)) (0, 0)).bind fun a68 =>
                   (idx a44.2.2 a68).bind fun x70 =>
                   (idx a44.2.2 a68).bind fun x72 =>
                   if (!x72) = true then
                    (idx a44.2.2 a68).bind fun x74 =>
                    if fits 24 ((a44.2.1 : List TSetBeforeLetter).length + ([(a68, a12.1, a44.1)]).length) then
                     k50 (a44.2.1 ++ [(a68, a12.1, a44.1)], (a44.2.2).set (a68).toNat true)
                    else none
                   else
                    k50 (a44.2.1, a44.2.2)
                 else
                  some (Stp.exit (a44.2.1, a44.2.2))) (0, a12.2.1, a12.2.2)).bind fun a78 =>
             some (Stp.next (IntKind.wrap .i64 (a12.1 + 1), a78.1, a78.2))
           else
            some (Stp.exit (Ou.go ()))) (0, [(IntKind.wrap .i64 ((IntKind.wrap .i64 (1 * 2 ^ (min (((x1.1.2.1).length : Int)).toNat (IntKind.bits .i64)))) - 1), (-1), (-1))], (List.replicate (IntKind.wrap .i64 (1 * 2 ^ (min (((x1.1.2.1).length : Int)).toNat (IntKind.bits .i64)))).toNat (false : Bool)).set (IntKind.wrap .i64 ((IntKind.wrap .i64 (1 * 2 ^ (min (((x1.1.2.1).length : Int)).toNat (IntKind.bits .i64)))) - 1)).toNat true)) (fun a80 =>
           some (([] : List UInt8), false, 0)) some
      else none
     else none
    else none
   else none
noncomputable def m_reset_check (p0 : TLettersNext) (p1 : List UInt8) : Option (Int) :=
 (m_reset_Check p0).bind fun x1 =>
 if x1 ≠ 0 then
  some 1
 else
  (m_word_Check p0.1 p1).bind fun x3 =>
  some x3
noncomputable def m_reset_lead (p0 : TLettersNext) (p1 : Int) (p2 : List UInt8) : Option (Int) :=
 (loopW (S := Int × Int) (X := Int) (fun a1 =>
     if a1.2 < ((p2).length : Int) then
      (idx p2 a1.2).bind fun x5 =>
      (m_strings_IndexByte [48, 49, 50, 51, 52, 53, 54, 55, 56, 57, 97, 98, 99, 100, 101, 102] (x5.toNat : Int)).bind fun x7 =>
      (m_reset_step p0 a1.1 x7).bind fun x9 =>
      some (Stp.next (x9, IntKind.wrap .i64 (a1.2 + 1)))
     else
      some (Stp.exit a1.1)) (p1, 0)).bind fun a11 =>
 some a11
noncomputable def m_reset_Verify (p0 : TLettersNext) (p1 : List UInt8) : Option (Int) :=
 (m_reset_check p0 p1).bind fun x1 =>
 if x1 ≠ 0 then
  some x1
 else
  (m_reset_all p0).bind fun x3 =>
  (m_reset_lead p0 x3 p1).bind fun x5 =>
  (m_reset_single x5).bind fun x7 =>
  if (!x7) = true then
   some 20
  else
   some 0
noncomputable def m_code_sorted_string (p0 : List (List UInt8)) : Option ((List (List UInt8))) :=
 (m_slices_Clone_Lstring_string p0).bind fun x1 =>
 if (x1).length < 4611686018427387904 then
  some (compactS_ (sortW x1))
 else none
noncomputable def m_code_Make (p0 : Int) (p1 : List (List UInt8)) : Option (TLettersWords × Int) :=
 (m_code_sorted_string p1).bind fun x2 =>
 (m_code_Check (p0, x2)).bind fun x5 =>
 if x5 ≠ 0 then
  some ((0, []), x5)
 else
  some ((p0, x2), 0)
noncomputable def m_slices_EqualFunc_LLint_LLint_Lint_Lint (p0 : List (List (Int))) (p1 : List (List (Int))) : Option (Bool) :=
 if ((p0).length : Int) ≠ ((p1).length : Int) then
  some false
 else
  lpO (loopW (S := Int) (X := Ou (Unit) (Bool)) (fun a1 =>
      if a1 < ((p0).length : Int) then
       (idx p0 a1).bind fun x5 =>
       (idx p1 a1).bind fun x7 =>
       (m_slices_Equal_Lint_int x5 x7).bind fun x9 =>
       if (!x9) = true then
        some (Stp.exit (Ou.ret false))
       else
        some (Stp.next (IntKind.wrap .i64 (a1 + 1)))
      else
       some (Stp.exit (Ou.go ()))) 0) (fun a11 =>
      some true) some
noncomputable def m_parser_same (p0 : TLettersPrefixesNextEmit) (p1 : TLettersPrefixesNextEmit) : Option (Bool) :=
 jp (fun (a1 : Bool) =>
   some a1)
   fun k3 =>
  if p0.1 = p1.1 then
   (m_slices_Equal_Lstring_string p0.2.1 p1.2.1).bind fun x4 =>
   if x4 = true then
    (m_slices_EqualFunc_LLint_LLint_Lint_Lint p0.2.2.1 p1.2.2.1).bind fun x6 =>
    if x6 = true then
     (m_slices_EqualFunc_LLint_LLint_Lint_Lint p0.2.2.2 p1.2.2.2).bind fun x8 =>
     k3 x8
    else
     k3 false
   else
    k3 false
  else
   k3 false
noncomputable def m_parser_Check (p0 : TLettersPrefixesNextEmit) : Option (Int) :=
 jp (fun (a1 : Bool) =>
   if a1 = true then
    some 1
   else
    lpO (loopW (S := Int × (List (List UInt8))) (X := Ou ((List (List UInt8))) (Int)) (fun a5 =>
        if a5.1 < ((p0.2.1).length : Int) then
         (idx p0.2.1 a5.1).bind fun x9 =>
         jp (fun (a11 : Bool) =>
           if a11 = true then
            some (Stp.exit (Ou.ret 1))
           else
            (idx p0.2.2.2 a5.1).bind fun x14 =>
            (loopW (S := Int × (List (List UInt8))) (X := (List (List UInt8))) (fun a16 =>
                if a16.1 < ((x14).length : Int) then
                 jp (fun (a20 : (List (List UInt8))) =>
                   some (Stp.next (IntKind.wrap .i64 (a16.1 + 1), a20)))
                   fun k22 =>
                  (idx x14 a16.1).bind fun x23 =>
                  if 0 ≤ x23 then
                   if 0 ≤ (a16.1 : Int) ∧ (a16.1 : Int) ≤ IntKind.wrap .i64 (a16.1 + 1) ∧ IntKind.wrap .i64 (a16.1 + 1) ≤ (([48, 49, 50, 51, 52, 53, 54, 55, 56, 57, 97, 98, 99, 100, 101, 102] : List UInt8).length : Int) then
                    if x9.length + ((([48, 49, 50, 51, 52, 53, 54, 55, 56, 57, 97, 98, 99, 100, 101, 102] : List UInt8).take (IntKind.wrap .i64 (a16.1 + 1)).toNat).drop (a16.1).toNat).length ≤ maxLen then
                     if fits 16 ((a16.2 : List (List UInt8)).length + ([x9 ++ ((([48, 49, 50, 51, 52, 53, 54, 55, 56, 57, 97, 98, 99, 100, 101, 102] : List UInt8).take (IntKind.wrap .i64 (a16.1 + 1)).toNat).drop (a16.1).toNat)]).length) then
                      k22 (a16.2 ++ [x9 ++ ((([48, 49, 50, 51, 52, 53, 54, 55, 56, 57, 97, 98, 99, 100, 101, 102] : List UInt8).take (IntKind.wrap .i64 (a16.1 + 1)).toNat).drop (a16.1).toNat)])
                     else none
                    else none
                   else none
                  else
                   k22 a16.2
                else
                 some (Stp.exit a16.2)) (0, a5.2)).bind fun a29 =>
            some (Stp.next (IntKind.wrap .i64 (a5.1 + 1), a29)))
           fun k13 =>
          (idx p0.2.2.1 a5.1).bind fun x31 =>
          if ((x31).length : Int) ≠ p0.1 then
           k13 true
          else
           (idx p0.2.2.2 a5.1).bind fun x33 =>
           if ((x33).length : Int) ≠ p0.1 then
            k13 true
           else
            if 32 ≤ ((x9).length : Int) then
             k13 true
            else
             k13 (decide (64 < (((a5.2).length : Nat) : Int)))
        else
         some (Stp.exit (Ou.go a5.2))) (0, ([] : List (List UInt8)))) (fun a39 =>
        (m_code_Make p0.1 a39).bind fun x41 =>
        jp (fun (a43 : Bool) =>
          if a43 = true then
           some 1
          else
           some 0)
          fun k45 =>
         if x41.2 ≠ 0 then
          k45 true
         else
          (m_parser_prefix x41.1).bind fun x46 =>
          if (!x46) = true then
           k45 true
          else
           (m_parser_build x41.1).bind fun x48 =>
           (m_parser_same x48 p0).bind fun x50 =>
           k45 (!x50)) some)
   fun k3 =>
  if ((p0.2.1).length : Int) ≠ ((p0.2.2.1).length : Int) then
   k3 true
  else
   if ((p0.2.1).length : Int) ≠ ((p0.2.2.2).length : Int) then
    k3 true
   else
    if p0.1 < 2 then
     k3 true
    else
     k3 (decide (16 < p0.1))
noncomputable def m_parser_reads (p0 : TLettersPrefixesNextEmit) (p1 : List UInt8) : Option (Int) :=
 (m_parser_Check p0).bind fun x1 =>
 if x1 ≠ 0 then
  some 1
 else
  (m_word_Check p0.1 p1).bind fun x3 =>
  some x3
noncomputable def m_parser_Run (p0 : TLettersPrefixesNextEmit) (p1 : Int) (p2 : List UInt8) : Option ((List (Int)) × Int × Int) :=
 (m_parser_reads p0 p2).bind fun x2 =>
 if x2 ≠ 0 then
  some ([], 0, x2)
 else
  jp (fun (a4 : Bool) =>
    if a4 = true then
     some ([], 0, 25)
    else
     jp (fun (a9 : Unit) =>
       (y_parser_steps p0 p1 p2).bind fun L14 =>
       lpO (forL (S := Int × Int × (List Int)) (X := Unit) (fun a16 (x18 : Int × Int) =>
           jp (fun (a22 : (List Int)) =>
             some (Stp.next (x18.2, IntKind.wrap .i64 (a16.2.1 + 1), a22)))
             fun k24 =>
            if 0 ≤ x18.1 then
             if fits 8 ((a16.2.2 : List Int).length + ([x18.1]).length) then
              k24 (a16.2.2 ++ [x18.1])
             else none
            else
             k24 a16.2.2) L14 (p1, 0, ([] : List Int))) (fun a27 =>
           if a27.2.1 < ((p2).length : Int) then
            some ([], 0, 13)
           else
            some (a27.2.2, a27.1, 0)) fun a29 =>
           none)
       fun k11 =>
      k11 ())
    fun k6 =>
   if p1 < 0 then
    k6 true
   else
    k6 (decide (((p0.2.1).length : Int) ≤ p1))
noncomputable def m_top_TopResetParsers (p0 : TLettersWords) (p1 : List UInt8) (p2 : List UInt8) : Option (Bool) :=
 (m_top_top45Machine p0).bind fun x1 =>
 jp (fun (a5 : Bool) =>
   if a5 = true then
    (m_top_top45Awake).bind fun x8 =>
    some x8
   else
    (m_reset_Shortest x1.2.1).bind fun x10 =>
    (m_resync_Synchronizing p0).bind fun x12 =>
    jp (fun (a14 : Bool) =>
      if a14 = true then
       some false
      else
       jp (fun (a17 : Bool) =>
         if a17 = true then
          some false
         else
          if (!x10.2.1) = true then
           (m_top_top45Awake).bind fun x20 =>
           some x20
          else
           if p1.length + x10.1.length ≤ maxLen then
            (m_parser_Run x1.1 0 (p1 ++ x10.1)).bind fun x23 =>
            if p2.length + x10.1.length ≤ maxLen then
             (m_parser_Run x1.1 0 (p2 ++ x10.1)).bind fun x26 =>
             jp (fun (a28 : Bool) =>
               some a28)
               fun k30 =>
              if x23.2.2 = 0 then
               if x26.2.2 = 0 then
                if x23.2.1 = x26.2.1 then
                 (m_top_top45Awake).bind fun x31 =>
                 k30 x31
                else
                 k30 false
               else
                k30 false
              else
               k30 false
            else none
           else none)
         fun k19 =>
        if x12.2.1 = true then
         (m_reset_Verify x1.2.1 x12.1).bind fun x36 =>
         if x36 ≠ 0 then
          k19 true
         else
          k19 (decide (((x12.1).length : Int) < ((x10.1).length : Int)))
        else
         k19 false)
      fun k16 =>
     if x10.2.2 ≠ 0 then
      k16 true
     else
      if x12.2.2 ≠ 0 then
       k16 true
      else
       if x12.2.1 = true then
        k16 (!x10.2.1)
       else
        k16 false)
   fun k7 =>
  if (!x1.2.2) = true then
   k7 true
  else
   if 20 < ((p1).length : Int) then
    k7 true
   else
    if 20 < ((p2).length : Int) then
     k7 true
    else
     (m_word_Check p0.1 p1).bind fun x43 =>
     if x43 ≠ 0 then
      k7 true
     else
      (m_word_Check p0.1 p2).bind fun x45 =>
      k7 (decide (x45 ≠ 0))
section
variable {P : Program} {s : AS}
end
section
variable {P : Program} {ro : Option Nat} {N : Nat} {s : AS} {o : Oper} {sl : List (Nat × HV)} {H : Heap} {all : Array Oper} {rest : List Oper} {K : AS → Prop}
end
set_option maxHeartbeats 1600000
set_option maxRecDepth 100000
theorem w_ref33_Great {p0 : TLettersWords} {r : Bool} (h : m_ref33_Great p0 = some r) : Pure Tryd.prog 11 [.agg [hI p0.1, slE eStr p0.2]] (· = HV.bool r) := by
 unfold m_ref33_Great at h
 refine Pure.of_body Tryd.func11 rfl rfl (lb rfl) fun hf => ?_
 unfold Tryd.f11
 dsimp only [enumS, Nat.reduceAdd]
 refine AW.rgs rfl fun K hK => b_op rfl (o_box rfl rfl rfl ?_)
 refine mv rfl rfl ?_
 let E1 : Nat × HV := (1, .fptr [hI p0.1, slE eStr p0.2] 0)
 refine bf hK ⟨[E1], []⟩ ?_
 refine AW.seq ?_
 refine AW.seqJ h (S := Bool) (V := Unit) (fun a v => ⟨[E1, (19, .bool a)], []⟩) (fun a1 w2 h => ?_) (fun k3 h => ?_)
 ·refine AW.cond rfl (fun hc => ?_) (fun hc => ?_)
  ·have h := ifT hc h
   refine AW.rgs rfl fun K hK => mv rfl rfl ?_
   refine bf hK ⟨[(2, .bool true)], []⟩ ?_
   obtain rfl := oi h
   exact AW.ret (ret_pure (.inr rfl) (resT rfl rfl) rfl trivial)
  have h := ifF (bF' hc) h
  refine AW.skip ?_
  refine AW.seq ?_
  refine AW.rgs rfl fun K hK => mv rfl rfl ?_
  refine bf hK ⟨[E1, (3, hI 0)], []⟩ ?_
  refine AW.lpR h (by first | exact up_then | exact up_to) (S := Int) (V := Unit) (fun a v => ⟨[E1, (3, hI a)], []⟩) ?_ (X := Unit) (W := Unit) (fun a v => ⟨[], []⟩) (fun a21 w22 h => ?_) (fun a4 w5 st6 h hr7=> ?_)
  ·exact to_L ⟨(), rfl⟩
  ·refine AW.rgs rfl fun K hK => mv rfl rfl ?_
   refine bf hK ⟨[(2, .bool false)], []⟩ ?_
   obtain rfl := oi h
   exact AW.ret (ret_pure (.inr rfl) (resT rfl rfl) rfl trivial)
  refine AW.seq ?_
  refine AW.rgs rfl fun K hK => mv rfl rfl (bv rfl (v_fieldAddrF fo24_1 rfl) (bv rfl (v_loadF ty22 rfl (l_lit rfl rfl)) (bv rfl (v_lenF rfl rfl ty22 rfl) (bv rfl (v_bin rfl rfl b_lss) ?_))))
  refine bf hK ⟨[E1, (3, hI a4), (24, .bool (decide (a4 < ((p0.2).length : Int))))], []⟩ ?_
  refine AW.cond rfl (fun hc => ?_) (fun hc => ?_)
  ·obtain ⟨hc, h⟩ := cT hc h
   refine AW.skip ?_
   refine AW.seq (AW.block ?_)
   refine AW.seqJ h (S := Bool) (V := Unit) (fun a v => ⟨[E1, (3, hI a4), (51, .bool a)], []⟩) (fun a8 w9 h => ?_) (fun k10 h => ?_)
   ·refine AW.cond rfl (fun hc => ?_) (fun hc => ?_)
    ·have h := ifT hc h
     refine AW.rgs rfl fun K hK => mv rfl rfl ?_
     refine bf hK ⟨[(2, .bool true)], []⟩ ?_
     have h := hr7 _ h
     obtain rfl := oi h
     exact AW.ret (ret_pure (.inr rfl) (resT rfl rfl) rfl trivial)
    have h := ifF (bF' hc) h
    refine AW.skip ?_
    refine AW.rg rfl fun K hK => mv rfl rfl (bv rfl (v_bin rfl rfl b_add) (mv rfl rfl ?_))
    refine b_nil (hK _ ?_)
    exact to_L ⟨IntKind.wrap .i64 (a4 + 1), (), h, rfl⟩
   refine AW.rg rfl fun K hK => bv rfl (v_fieldAddrF fo24_1 rfl) (bv rfl (v_loadF ty22 rfl (l_lit rfl rfl)) (mv rfl rfl ?_))
   obtain ⟨x11, h12, h⟩ := bS h
   refine bv rfl (v_idxF ty22 es22 rfl rfl (idx_lt h12)) (bv rfl (v_loadF ty9 rfl (l_cell eStr h12 (o := 0) rfl rfl)) (bv rfl (v_lenS rfl rfl ty9 rfl) (bv rfl (v_bin rfl rfl b_gtr) (mv rfl rfl ?_))))
   by_cases hg20 : 8 < ((x11).length : Int)
   ·have h := ifT hg20 h
    refine b_T rfl rfl rfl rfl (decide_eq_true hg20) (o_val rfl (v_fieldAddrF fo24_1 rfl) ?_)
    refine b_T rfl rfl rfl rfl rfl (o_val rfl (v_loadF ty22 rfl (l_lit rfl rfl)) ?_)
    refine b_T rfl rfl rfl rfl rfl (o_val rfl (mv_val rfl rfl).2 ?_)
    obtain ⟨x13, h14, h⟩ := bS h
    refine b_T rfl rfl rfl rfl rfl (o_val rfl (v_idxF ty22 es22 rfl rfl (idx_lt h14)) ?_)
    refine b_T rfl rfl rfl rfl rfl (o_val rfl (v_loadF ty9 rfl (l_cell eStr h14 (o := 0) rfl rfl)) ?_)
    refine b_T rfl rfl rfl rfl rfl (o_val rfl (v_lenS rfl rfl ty9 rfl) ?_)
    refine b_T rfl rfl rfl rfl rfl (o_val rfl (v_bin rfl rfl b_leq) ?_)
    refine bv rfl (v_pickT rfl rfl rfl) (mv rfl rfl ?_)
    by_cases hg17 : ((x13).length : Int) ≤ 32
    ·have h := ifT hg17 h
     refine b_F rfl rfl rfl rfl rfl (decide_eq_true hg17) ?_
     iterate 6 refine b_F rfl rfl rfl rfl rfl rfl ?_
     refine bv rfl (v_pickT rfl rfl rfl) ?_
     refine b_nil (hK _ ?_)
     exact to_L ⟨true, (), h, rfl⟩
    have h := ifF hg17 h
    refine b_T rfl rfl rfl rfl (decide_eq_false hg17) (o_val rfl (v_fieldAddrF fo24_1 rfl) ?_)
    refine b_T rfl rfl rfl rfl rfl (o_val rfl (v_loadF ty22 rfl (l_lit rfl rfl)) ?_)
    refine b_T rfl rfl rfl rfl rfl (o_val rfl (mv_val rfl rfl).2 ?_)
    obtain ⟨x15, h16, h⟩ := bS h
    refine b_T rfl rfl rfl rfl rfl (o_val rfl (v_idxF ty22 es22 rfl rfl (idx_lt h16)) ?_)
    refine b_T rfl rfl rfl rfl rfl (o_val rfl (v_loadF ty9 rfl (l_cell eStr h16 (o := 0) rfl rfl)) ?_)
    refine b_T rfl rfl rfl rfl rfl (o_val rfl (v_lenS rfl rfl ty9 rfl) ?_)
    refine b_T rfl rfl rfl rfl rfl (o_val rfl (v_bin rfl rfl b_gtr) ?_)
    refine bv rfl (v_pickF rfl rfl rfl) ?_
    refine b_nil (hK _ ?_)
    exact to_L ⟨decide (33 < ((x15).length : Int)), (), h, rfl⟩
   have h := ifF hg20 h
   refine b_F rfl rfl rfl rfl rfl (decide_eq_false hg20) ?_
   iterate 6 refine b_F rfl rfl rfl rfl rfl rfl ?_
   refine bv rfl (v_pickF rfl rfl rfl) (mv rfl rfl ?_)
   refine b_T rfl rfl rfl rfl rfl (o_val rfl (v_fieldAddrF fo24_1 rfl) ?_)
   refine b_T rfl rfl rfl rfl rfl (o_val rfl (v_loadF ty22 rfl (l_lit rfl rfl)) ?_)
   refine b_T rfl rfl rfl rfl rfl (o_val rfl (mv_val rfl rfl).2 ?_)
   obtain ⟨x18, h19, h⟩ := bS h
   refine b_T rfl rfl rfl rfl rfl (o_val rfl (v_idxF ty22 es22 rfl rfl (idx_lt h19)) ?_)
   refine b_T rfl rfl rfl rfl rfl (o_val rfl (v_loadF ty9 rfl (l_cell eStr h19 (o := 0) rfl rfl)) ?_)
   refine b_T rfl rfl rfl rfl rfl (o_val rfl (v_lenS rfl rfl ty9 rfl) ?_)
   refine b_T rfl rfl rfl rfl rfl (o_val rfl (v_bin rfl rfl b_gtr) ?_)
   refine bv rfl (v_pickF rfl rfl rfl) ?_
   refine b_nil (hK _ ?_)
   exact to_L ⟨decide (33 < ((x18).length : Int)), (), h, rfl⟩
  obtain ⟨hc, h⟩ := cF hc h
  refine AW.exit ?_
  exact to_L ⟨(), (), h, rfl⟩
 refine AW.rg rfl fun K hK => bv rfl (v_fieldAddrF fo24_1 rfl) (bv rfl (v_loadF ty22 rfl (l_lit rfl rfl)) (bv rfl (v_lenF rfl rfl ty22 rfl) (bv rfl (v_bin rfl rfl b_gtr) (mv rfl rfl ?_))))
 by_cases hg24 : 8 < ((p0.2).length : Int)
 ·have h := ifT hg24 h
  refine b_T rfl rfl rfl rfl (decide_eq_true hg24) (o_val rfl (v_fieldAddrF fo24_1 rfl) ?_)
  refine b_T rfl rfl rfl rfl rfl (o_val rfl (v_loadF ty22 rfl (l_lit rfl rfl)) ?_)
  refine b_T rfl rfl rfl rfl rfl (o_val rfl (v_lenF rfl rfl ty22 rfl) ?_)
  refine b_T rfl rfl rfl rfl rfl (o_val rfl (v_bin rfl rfl b_leq) ?_)
  refine bv rfl (v_pickT rfl rfl rfl) (mv rfl rfl ?_)
  by_cases hg23 : ((p0.2).length : Int) ≤ 64
  ·have h := ifT hg23 h
   refine b_F rfl rfl rfl rfl rfl (decide_eq_true hg23) ?_
   iterate 3 refine b_F rfl rfl rfl rfl rfl rfl ?_
   refine bv rfl (v_pickT rfl rfl rfl) ?_
   refine b_nil (hK _ ?_)
   exact to_L ⟨true, (), h, rfl⟩
  have h := ifF hg23 h
  refine b_T rfl rfl rfl rfl (decide_eq_false hg23) (o_val rfl (v_fieldAddrF fo24_1 rfl) ?_)
  refine b_T rfl rfl rfl rfl rfl (o_val rfl (v_loadF ty22 rfl (l_lit rfl rfl)) ?_)
  refine b_T rfl rfl rfl rfl rfl (o_val rfl (v_lenF rfl rfl ty22 rfl) ?_)
  refine b_T rfl rfl rfl rfl rfl (o_val rfl (v_bin rfl rfl b_gtr) ?_)
  refine bv rfl (v_pickF rfl rfl rfl) ?_
  refine b_nil (hK _ ?_)
  exact to_L ⟨decide (65 < ((p0.2).length : Int)), (), h, rfl⟩
 have h := ifF hg24 h
 refine b_F rfl rfl rfl rfl rfl (decide_eq_false hg24) ?_
 iterate 3 refine b_F rfl rfl rfl rfl rfl rfl ?_
 refine bv rfl (v_pickF rfl rfl rfl) (mv rfl rfl ?_)
 refine b_T rfl rfl rfl rfl rfl (o_val rfl (v_fieldAddrF fo24_1 rfl) ?_)
 refine b_T rfl rfl rfl rfl rfl (o_val rfl (v_loadF ty22 rfl (l_lit rfl rfl)) ?_)
 refine b_T rfl rfl rfl rfl rfl (o_val rfl (v_lenF rfl rfl ty22 rfl) ?_)
 refine b_T rfl rfl rfl rfl rfl (o_val rfl (v_bin rfl rfl b_gtr) ?_)
 refine bv rfl (v_pickF rfl rfl rfl) ?_
 refine b_nil (hK _ ?_)
 exact to_L ⟨decide (65 < ((p0.2).length : Int)), (), h, rfl⟩
theorem w_word_known {p0 : Int} {r : Bool} (h : m_word_known p0 = some r) : Pure Tryd.prog 14 [hI p0] (· = HV.bool r) := by
 unfold m_word_known at h
 refine Pure.of_body Tryd.func14 rfl rfl (lb rfl) fun hf => ?_
 unfold Tryd.f14
 dsimp only [enumS, Nat.reduceAdd]
 refine AW.rgs rfl fun K hK => mv rfl rfl ?_
 refine bf hK ⟨[(0, hI p0)], []⟩ ?_
 refine AW.seqJ h (S := Bool) (V := Unit) (fun a v => ⟨[(2, .bool a)], []⟩) (fun a1 w2 h => ?_) (fun k3 h => ?_)
 ·obtain rfl := oi h
  exact AW.ret (ret_pure (.inr rfl) (resT rfl rfl) rfl trivial)
 refine AW.rg rfl fun K hK => mv rfl rfl (bv rfl (v_bin rfl rfl b_geq) (mv rfl rfl ?_))
 by_cases hg4 : 1 ≤ p0
 ·have h := ifT hg4 h
  refine b_T rfl rfl rfl rfl (decide_eq_true hg4) (o_val rfl (mv_val rfl rfl).2 ?_)
  refine b_T rfl rfl rfl rfl rfl (o_val rfl (v_bin rfl rfl b_leq) ?_)
  refine bv rfl (v_pickT rfl rfl rfl) (mv rfl rfl ?_)
  refine b_nil (hK _ ?_)
  exact to_L ⟨decide (p0 ≤ 16), (), h, rfl⟩
 have h := ifF hg4 h
 refine b_F rfl rfl rfl rfl rfl (decide_eq_false hg4) ?_
 refine b_F rfl rfl rfl rfl rfl rfl ?_
 refine bv rfl (v_pickF rfl rfl rfl) (mv rfl rfl ?_)
 refine b_nil (hK _ ?_)
 exact to_L ⟨false, (), h, rfl⟩
theorem w_word_Check {p0 : Int} {p1 : List UInt8} {r : Int} (h : m_word_Check p0 p1 = some r) : Pure Tryd.prog 5 [hI p0, .str p1] (· = hI r) := by
 unfold m_word_Check at h
 refine Pure.of_body Tryd.func5 rfl rfl (lb rfl) fun hf => ?_
 unfold Tryd.f5
 dsimp only [enumS, Nat.reduceAdd]
 refine AW.rgs rfl fun K hK => mv rfl rfl ?_
 let P1 : ASf := fun t H => ⟨(0, hI p0) :: (1, .str p1) :: t, H⟩
 refine bf hK (P1 [] []) ?_
 refine AW.seq (AW.block ?_)
 refine AW.rgs rfl fun K hK => mv rfl rfl ?_
 obtain ⟨x1, h2, h⟩ := bS h
 refine b_op rfl (o_call rfl rfl rfl rfl (ACallD.pure0 (w_word_known h2)) ?_)
 refine bv rfl (v_not rfl) (mv rfl rfl ?_)
 refine bf hK (P1 [(6, .bool (!x1))] []) ?_
 refine AW.cond rfl (fun hc => ?_) (fun hc => ?_)
 ·have h := ifT hc h
  refine AW.rgs rfl fun K hK => mv rfl rfl ?_
  refine bf hK ⟨[(4, hI 12)], []⟩ ?_
  obtain rfl := oi h
  exact AW.ret (ret_pure (.inr rfl) (resT rfl rfl) rfl trivial)
 have h := ifF (bF' hc) h
 refine AW.rgs rfl fun K hK => mv rfl rfl (bv rfl (v_lenS rfl rfl ty9 rfl) (bv rfl (v_bin rfl rfl b_gtr) (mv rfl rfl ?_)))
 refine bf hK (P1 [(10, .bool (decide (65536 < ((p1).length : Int))))] []) ?_
 refine AW.cond rfl (fun hc => ?_) (fun hc => ?_)
 ·obtain ⟨hc, h⟩ := cT hc h
  refine AW.rgs rfl fun K hK => mv rfl rfl ?_
  refine bf hK ⟨[(4, hI 4)], []⟩ ?_
  obtain rfl := oi h
  exact AW.ret (ret_pure (.inr rfl) (resT rfl rfl) rfl trivial)
 obtain ⟨hc, h⟩ := cF hc h
 refine AW.skip ?_
 refine AW.seq ?_
 refine AW.rgs rfl fun K hK => mv rfl rfl (bv rfl (v_lenS rfl rfl ty9 rfl) (mv rfl rfl ?_))
 let E3 : Nat × HV := (15, hI ((p1).length : Int))
 refine bf hK (P1 [E3, (16, hI 0)] []) ?_
 refine AW.lpR h (by first | exact up_then | exact up_to) (S := Int) (V := Unit) (fun a v => (P1 [E3, (16, hI a)] [])) ?_ (X := Unit) (W := Unit) (fun a v => ⟨[], []⟩) (fun a12 w13 h => ?_) (fun a3 w4 st5 h hr6=> ?_)
 ·exact to_L ⟨(), rfl⟩
 ·refine AW.rgs rfl fun K hK => mv rfl rfl ?_
  refine bf hK ⟨[(4, hI 0)], []⟩ ?_
  obtain rfl := oi h
  exact AW.ret (ret_pure (.inr rfl) (resT rfl rfl) rfl trivial)
 refine AW.rgs rfl fun K hK => bv rfl (v_bin rfl rfl b_lss) ?_
 refine bf hK (P1 [E3, (16, hI a3), (17, .bool (decide (a3 < ((p1).length : Int))))] []) ?_
 refine AW.cseq rfl (fun hc => ?_) (fun hc => ?_)
 ·obtain ⟨hc, h⟩ := cT hc h
  refine AW.skip ?_
  refine AW.seq (AW.block ?_)
  refine AW.rgs rfl fun K hK => mv rfl rfl (mv rfl rfl ?_)
  refine bf hK (P1 [(5, hI a3), E3, (16, hI a3)] []) ?_
  refine AW.dgs 7 follows rfl rfl fun K hK => ?_
  refine sm rfl rfl ?_
  obtain ⟨h7, h⟩ := ifN h
  refine sv rfl (v_sliceS ty9 rfl rfl rfl h7) ?_
  iterate 2 refine sm rfl rfl ?_
  obtain ⟨x8, h9, h⟩ := bS h
  refine sv rfl (v_idxS ty9 rfl rfl h9) ?_
  obtain ⟨x10, h11, h⟩ := bS h
  refine s_op rfl rfl (ops_call rfl rfl rfl rfl (ACallD.pure0 (w_strings_IndexByte h11)) ?_)
  refine sv rfl (v_bin rfl rfl b_lss) ?_
  refine s_nil ?_
  refine bf hK (P1 [E3, (16, hI a3), (25, .bool (decide (x10 < 0)))] []) ?_
  refine AW.cond rfl (fun hc => ?_) (fun hc => ?_)
  ·obtain ⟨hc, h⟩ := cT hc h
   refine AW.rgs rfl fun K hK => mv rfl rfl ?_
   refine bf hK ⟨[(4, hI 13)], []⟩ ?_
   have h := hr6 _ h
   obtain rfl := oi h
   exact AW.ret (ret_pure (.inr rfl) (resT rfl rfl) rfl trivial)
  obtain ⟨hc, h⟩ := cF hc h
  refine AW.skip ?_
  refine AW.rg rfl fun K hK => bv rfl (v_bin rfl rfl b_add) (mv rfl rfl ?_)
  refine b_nil (hK _ ?_)
  exact to_L ⟨IntKind.wrap .i64 (a3 + 1), (), h, rfl⟩
 obtain ⟨hc, h⟩ := cF hc h
 refine AW.exit ?_
 exact to_L ⟨(), (), h, rfl⟩
theorem w_cmp_Or_int {p0 : List (Int)} {r : Int} (h : m_cmp_Or_int p0 = some r) : Pure Tryd.prog 47 [slE eInt p0] (· = hI r) := by
 unfold m_cmp_Or_int at h
 refine Pure.of_body Tryd.func47 rfl rfl (lb rfl) fun hf => ?_
 unfold Tryd.f47
 dsimp only [enumS, Nat.reduceAdd]
 refine AW.rgs rfl fun K hK => mv rfl rfl ?_
 refine bf hK ⟨[(0, slE eInt p0)], []⟩ ?_
 refine AW.rgs rfl fun K hK => mv rfl rfl ?_
 refine bf hK ⟨[(0, slE eInt p0), (3, hI 0)], []⟩ ?_
 refine AW.seq ?_
 refine AW.rgs rfl fun K hK => mv rfl rfl (bv rfl (v_lenF rfl rfl ty39 rfl) (mv rfl rfl ?_))
 let E4 : Nat × HV := (7, hI ((p0).length : Int))
 let P2 : ASf := fun t H => ⟨(3, hI 0) :: (6, slE eInt p0) :: E4 :: t, H⟩
 refine bf hK (P2 [(8, hI 0)] []) ?_
 refine AW.lpR h (by first | exact up_then | exact up_to) (S := Int) (V := Unit) (fun a v => (P2 [(8, hI a)] [])) ?_ (X := Unit) (W := Unit) (fun a v => ⟨[(3, hI 0)], []⟩) (fun a7 w8 h => ?_) (fun a1 w2 st3 h hr4=> ?_)
 ·exact to_L ⟨(), rfl⟩
 ·refine AW.rgs rfl fun K hK => mv rfl rfl (mv rfl rfl ?_)
  refine bf hK ⟨[(2, hI 0)], []⟩ ?_
  obtain rfl := oi h
  exact AW.ret (ret_pure (.inr rfl) (resT rfl rfl) rfl trivial)
 refine AW.rgs rfl fun K hK => bv rfl (v_bin rfl rfl b_lss) ?_
 refine bf hK (P2 [(8, hI a1), (9, .bool (decide (a1 < ((p0).length : Int))))] []) ?_
 refine AW.cseq rfl (fun hc => ?_) (fun hc => ?_)
 ·obtain ⟨hc, h⟩ := cT hc h
  refine AW.skip ?_
  refine AW.seq (AW.block ?_)
  refine AW.rgs rfl fun K hK => ?_
  obtain ⟨x5, h6, h⟩ := bS h
  refine bv rfl (v_idxF ty39 es39 rfl rfl (idx_lt h6)) (bv rfl (v_loadF ty3 rfl (l_cell eInt h6 (o := 0) rfl rfl)) (mv rfl rfl ?_))
  refine bf hK ⟨[(3, hI 0), (5, hI x5), (6, slE eInt p0), E4, (8, hI a1)], []⟩ ?_
  refine AW.rgs rfl fun K hK => mv rfl rfl (mv rfl rfl (bv rfl (v_bin rfl rfl b_neq) ?_))
  refine bf hK ⟨[(3, hI 0), (5, hI x5), (6, slE eInt p0), E4, (8, hI a1), (14, .bool (decide (x5 ≠ 0)))], []⟩ ?_
  refine AW.cond rfl (fun hc => ?_) (fun hc => ?_)
  ·obtain ⟨hc, h⟩ := cT hc h
   refine AW.rgs rfl fun K hK => mv rfl rfl (mv rfl rfl ?_)
   refine bf hK ⟨[(2, hI x5)], []⟩ ?_
   have h := hr4 _ h
   obtain rfl := oi h
   exact AW.ret (ret_pure (.inr rfl) (resT rfl rfl) rfl trivial)
  obtain ⟨hc, h⟩ := cF hc h
  refine AW.skip ?_
  refine AW.rg rfl fun K hK => bv rfl (v_bin rfl rfl b_add) (mv rfl rfl ?_)
  refine b_nil (hK _ ?_)
  exact to_L ⟨IntKind.wrap .i64 (a1 + 1), (), h, rfl⟩
 obtain ⟨hc, h⟩ := cF hc h
 refine AW.exit ?_
 exact to_L ⟨(), (), h, rfl⟩
theorem w_cmp_isNaN_int {p0 : Int} {r : Bool} (h : m_cmp_isNaN_int p0 = some r) : Pure Tryd.prog 63 [hI p0] (· = HV.bool r) := by
 unfold m_cmp_isNaN_int at h
 refine Pure.of_body Tryd.func63 rfl rfl (lb rfl) fun hf => ?_
 unfold Tryd.f63
 dsimp only [enumS, Nat.reduceAdd]
 refine AW.rgs rfl fun K hK => mv rfl rfl ?_
 refine bf hK ⟨[(0, hI p0)], []⟩ ?_
 refine AW.rgs rfl fun K hK => mv rfl rfl (mv rfl rfl (bv rfl (v_bin rfl rfl b_neq) (mv rfl rfl ?_)))
 refine bf hK ⟨[(2, .bool (decide (p0 ≠ p0)))], []⟩ ?_
 obtain rfl := oi h
 exact AW.ret (ret_pure (.inr rfl) (resT rfl rfl) rfl trivial)
theorem w_cmp_Compare_int {p0 : Int} {p1 : Int} {r : Int} (h : m_cmp_Compare_int p0 p1 = some r) : Pure Tryd.prog 48 [hI p0, hI p1] (· = hI r) := by
 unfold m_cmp_Compare_int at h
 refine Pure.of_body Tryd.func48 rfl rfl (lb rfl) fun hf => ?_
 unfold Tryd.f48
 dsimp only [enumS, Nat.reduceAdd]
 refine AW.rgs rfl fun K hK => mv rfl rfl ?_
 let P3 : ASf := fun t H => ⟨(0, hI p0) :: (1, hI p1) :: t, H⟩
 refine bf hK (P3 [] []) ?_
 refine AW.rgs rfl fun K hK => mv rfl rfl ?_
 obtain ⟨x1, h2, h⟩ := bS h
 refine b_op rfl (o_call rfl rfl rfl rfl (ACallD.pure0 (w_cmp_isNaN_int h2)) ?_)
 refine mv rfl rfl ?_
 refine bf hK (P3 [(5, .bool x1)] []) ?_
 refine AW.rgs rfl fun K hK => mv rfl rfl ?_
 obtain ⟨x3, h4, h⟩ := bS h
 refine b_op rfl (o_call rfl rfl rfl rfl (ACallD.pure0 (w_cmp_isNaN_int h4)) ?_)
 refine mv rfl rfl ?_
 refine bf hK (P3 [(5, .bool x1), (6, .bool x3)] []) ?_
 refine AW.seq ?_
 refine AW.rgs rfl fun K hK => mv rfl rfl ?_
 refine bf hK (P3 [(6, .bool x3), (11, .bool x1)] []) ?_
 refine AW.cond rfl (fun hc => ?_) (fun hc => ?_)
 ·have h := ifT hc h
  refine AW.seq ?_
  refine AW.rgs rfl fun K hK => mv rfl rfl ?_
  refine bf hK ⟨[(12, .bool x3)], []⟩ ?_
  refine AW.cond rfl (fun hc => ?_) (fun hc => ?_)
  ·have h := ifT hc h
   refine AW.rgs rfl fun K hK => mv rfl rfl ?_
   refine bf hK ⟨[(4, hI 0)], []⟩ ?_
   obtain rfl := oi h
   exact AW.ret (ret_pure (.inr rfl) (resT rfl rfl) rfl trivial)
  have h := ifF (bF' hc) h
  refine AW.skip ?_
  refine AW.rgs rfl fun K hK => mv rfl rfl ?_
  refine bf hK ⟨[(4, hI (-1))], []⟩ ?_
  obtain rfl := oi h
  exact AW.ret (ret_pure (.inr rfl) (resT rfl rfl) rfl trivial)
 have h := ifF (bF' hc) h
 refine AW.skip ?_
 refine AW.seq ?_
 refine AW.rgs rfl fun K hK => mv rfl rfl ?_
 refine bf hK (P3 [(13, .bool x3)] []) ?_
 refine AW.cond rfl (fun hc => ?_) (fun hc => ?_)
 ·have h := ifT hc h
  refine AW.rgs rfl fun K hK => mv rfl rfl ?_
  refine bf hK ⟨[(4, hI 1)], []⟩ ?_
  obtain rfl := oi h
  exact AW.ret (ret_pure (.inr rfl) (resT rfl rfl) rfl trivial)
 have h := ifF (bF' hc) h
 refine AW.skip ?_
 refine AW.seq ?_
 refine AW.rgs rfl fun K hK => mv rfl rfl (mv rfl rfl (bv rfl (v_bin rfl rfl b_lss) ?_))
 refine bf hK (P3 [(16, .bool (decide (p0 < p1)))] []) ?_
 refine AW.cond rfl (fun hc => ?_) (fun hc => ?_)
 ·obtain ⟨hc, h⟩ := cT hc h
  refine AW.rgs rfl fun K hK => mv rfl rfl ?_
  refine bf hK ⟨[(4, hI (-1))], []⟩ ?_
  obtain rfl := oi h
  exact AW.ret (ret_pure (.inr rfl) (resT rfl rfl) rfl trivial)
 obtain ⟨hc, h⟩ := cF hc h
 refine AW.skip ?_
 refine AW.seq ?_
 refine AW.rgs rfl fun K hK => mv rfl rfl (mv rfl rfl (bv rfl (v_bin rfl rfl b_gtr) ?_))
 refine bf hK ⟨[(19, .bool (decide (p1 < p0)))], []⟩ ?_
 refine AW.cond rfl (fun hc => ?_) (fun hc => ?_)
 ·obtain ⟨hc, h⟩ := cT hc h
  refine AW.rgs rfl fun K hK => mv rfl rfl ?_
  refine bf hK ⟨[(4, hI 1)], []⟩ ?_
  obtain rfl := oi h
  exact AW.ret (ret_pure (.inr rfl) (resT rfl rfl) rfl trivial)
 obtain ⟨hc, h⟩ := cF hc h
 refine AW.skip ?_
 refine AW.rgs rfl fun K hK => mv rfl rfl ?_
 refine bf hK ⟨[(4, hI 0)], []⟩ ?_
 obtain rfl := oi h
 exact AW.ret (ret_pure (.inr rfl) (resT rfl rfl) rfl trivial)
theorem w_strings_Compare {p0 : List UInt8} {p1 : List UInt8} {r : Int} (h : m_strings_Compare p0 p1 = some r) : Pure Tryd.prog 58 [.str p0, .str p1] (· = hI r) := by
 unfold m_strings_Compare at h
 refine Pure.of_body Tryd.func58 rfl rfl (lb rfl) fun hf => ?_
 unfold Tryd.f58
 dsimp only [enumS, Nat.reduceAdd]
 refine AW.rgs rfl fun K hK => mv rfl rfl ?_
 refine bf hK ⟨[(0, .str p0), (1, .str p1)], []⟩ ?_
 refine AW.rgs rfl fun K hK => mv rfl rfl (mv rfl rfl ?_)
 obtain ⟨x1, h2, h⟩ := bS h
 refine b_op rfl (o_call rfl rfl rfl rfl (ACallD.pure0 (w_internal_bytealg_CompareString h2)) ?_)
 refine mv rfl rfl ?_
 refine bf hK ⟨[(4, hI x1)], []⟩ ?_
 obtain rfl := oi h
 exact AW.ret (ret_pure (.inr rfl) (resT rfl rfl) rfl trivial)
theorem w_code_before {p0 : List UInt8} {p1 : List UInt8} {r : Int} (h : m_code_before p0 p1 = some r) : Pure Tryd.prog 43 [.str p0, .str p1] (· = hI r) := by
 unfold m_code_before at h
 refine Pure.of_body Tryd.func43 rfl rfl (lb rfl) fun hf => ?_
 unfold Tryd.f43
 dsimp only [enumS, Nat.reduceAdd]
 refine AW.rgs rfl fun K hK => mv rfl rfl ?_
 refine bf hK ⟨[(0, .str p0), (1, .str p1)], []⟩ ?_
 refine AW.rgs rfl fun K hK => mv rfl rfl (bv rfl (v_lenS rfl rfl ty9 rfl) (mv rfl rfl (bv rfl (v_lenS rfl rfl ty9 rfl) ?_)))
 obtain ⟨x1, h2, h⟩ := bS h
 refine b_op rfl (o_call rfl rfl rfl rfl (ACallD.pure0 (w_cmp_Compare_int h2)) ?_)
 refine mv rfl rfl (mv rfl rfl ?_)
 obtain ⟨x3, h4, h⟩ := bS h
 refine b_op rfl (o_call rfl rfl rfl rfl (ACallD.pure0 (w_strings_Compare h4)) ?_)
 refine b_op rfl (o_bsl rfl rfl (as_of (cs := [hI x1, hI x3]) ty39 ty3 rfl rfl rfl rfl rfl) ?_)
 obtain ⟨x5, h6, h⟩ := bS h
 refine b_op rfl (o_call rfl rfl rfl rfl (ACallD.pure0 (w_cmp_Or_int h6)) ?_)
 refine mv rfl rfl ?_
 refine bf hK ⟨[(4, hI x5)], []⟩ ?_
 obtain rfl := oi h
 exact AW.ret (ret_pure (.inr rfl) (resT rfl rfl) rfl trivial)
theorem w_code_Check {p0 : TLettersWords} {r : Int} (h : m_code_Check p0 = some r) : Pure Tryd.prog 28 [.agg [hI p0.1, slE eStr p0.2]] (· = hI r) := by
 unfold m_code_Check at h
 refine Pure.of_body Tryd.func28 rfl rfl (lb rfl) fun hf => ?_
 unfold Tryd.f28
 dsimp only [enumS, Nat.reduceAdd]
 refine AW.rgs rfl fun K hK => b_op rfl (o_box rfl rfl rfl ?_)
 refine mv rfl rfl ?_
 let E2 : Nat × HV := (1, .fptr [hI p0.1, slE eStr p0.2] 0)
 refine bf hK ⟨[E2], []⟩ ?_
 refine AW.seq (AW.block ?_)
 refine AW.seqJ h (S := Bool) (V := Unit) (fun a v => ⟨[E2, (5, .bool a)], []⟩) (fun a1 w2 h => ?_) (fun k3 h => ?_)
 ·refine AW.cond rfl (fun hc => ?_) (fun hc => ?_)
  ·have h := ifT hc h
   refine AW.rgs rfl fun K hK => mv rfl rfl ?_
   refine bf hK ⟨[(2, hI 12)], []⟩ ?_
   obtain rfl := oi h
   exact AW.ret (ret_pure (.inr rfl) (resT rfl rfl) rfl trivial)
  have h := ifF (bF' hc) h
  refine AW.rgs rfl fun K hK => bv rfl (v_fieldAddrF fo24_1 rfl) (bv rfl (v_loadF ty22 rfl (l_lit rfl rfl)) (bv rfl (v_lenF rfl rfl ty22 rfl) (bv rfl (v_bin rfl rfl b_eql) (mv rfl rfl ?_))))
  refine bf hK ⟨[E2, (14, .bool (decide (((p0.2).length : Int) = 0)))], []⟩ ?_
  refine AW.cond rfl (fun hc => ?_) (fun hc => ?_)
  ·obtain ⟨hc, h⟩ := cT hc h
   refine AW.rgs rfl fun K hK => mv rfl rfl ?_
   refine bf hK ⟨[(2, hI 5)], []⟩ ?_
   obtain rfl := oi h
   exact AW.ret (ret_pure (.inr rfl) (resT rfl rfl) rfl trivial)
  obtain ⟨hc, h⟩ := cF hc h
  refine AW.rgs rfl fun K hK => bv rfl (v_fieldAddrF fo24_1 rfl) (bv rfl (v_loadF ty22 rfl (l_lit rfl rfl)) (bv rfl (v_lenF rfl rfl ty22 rfl) (bv rfl (v_bin rfl rfl b_gtr) (mv rfl rfl ?_))))
  refine bf hK ⟨[E2, (19, .bool (decide (64 < ((p0.2).length : Int))))], []⟩ ?_
  refine AW.cond rfl (fun hc => ?_) (fun hc => ?_)
  ·obtain ⟨hc, h⟩ := cT hc h
   refine AW.rgs rfl fun K hK => mv rfl rfl ?_
   refine bf hK ⟨[(2, hI 4)], []⟩ ?_
   obtain rfl := oi h
   exact AW.ret (ret_pure (.inr rfl) (resT rfl rfl) rfl trivial)
  obtain ⟨hc, h⟩ := cF hc h
  refine AW.skip ?_
  refine AW.seq ?_
  refine AW.rgs rfl fun K hK => bv rfl (v_fieldAddrF fo24_1 rfl) (bv rfl (v_loadF ty22 rfl (l_lit rfl rfl)) (bv rfl (v_lenF rfl rfl ty22 rfl) (mv rfl rfl ?_)))
  let E5 : Nat × HV := (26, hI ((p0.2).length : Int))
  let P4 : ASf := fun t H => ⟨E2 :: (25, slE eStr p0.2) :: E5 :: t, H⟩
  refine bf hK (P4 [(27, hI 0)] []) ?_
  refine AW.lpR h (by first | exact up_then | exact up_to) (S := Int) (V := Unit) (fun a v => (P4 [(27, hI a)] [])) ?_ (X := Unit) (W := Unit) (fun a v => ⟨[], []⟩) (fun a20 w21 h => ?_) (fun a4 w5 st6 h hr7=> ?_)
  ·exact to_L ⟨(), rfl⟩
  ·refine AW.rgs rfl fun K hK => mv rfl rfl ?_
   refine bf hK ⟨[(2, hI 0)], []⟩ ?_
   obtain rfl := oi h
   exact AW.ret (ret_pure (.inr rfl) (resT rfl rfl) rfl trivial)
  refine AW.rgs rfl fun K hK => bv rfl (v_bin rfl rfl b_lss) ?_
  refine bf hK (P4 [(27, hI a4), (28, .bool (decide (a4 < ((p0.2).length : Int))))] []) ?_
  refine AW.cseq rfl (fun hc => ?_) (fun hc => ?_)
  ·obtain ⟨hc, h⟩ := cT hc h
   refine AW.skip ?_
   refine AW.seq (AW.block ?_)
   refine AW.rgs rfl fun K hK => mv rfl rfl ?_
   obtain ⟨x8, h9, h⟩ := bS h
   refine bv rfl (v_idxF ty22 es22 rfl rfl (idx_lt h9)) (bv rfl (v_loadF ty9 rfl (l_cell eStr h9 (o := 0) rfl rfl)) (mv rfl rfl (mv rfl rfl ?_)))
   let P5 : ASf := fun t H => ⟨E2 :: (3, hI a4) :: (4, .str x8) :: (25, slE eStr p0.2) :: E5 :: (27, hI a4) :: t, H⟩
   refine bf hK (P5 [] []) ?_
   refine AW.block ?_
   refine AW.rgs rfl fun K hK => mv rfl rfl (bv rfl (v_bin rfl rfl b_seql) (mv rfl rfl ?_))
   refine bf hK (P5 [(32, .bool (decide (x8 = nS)))] []) ?_
   refine AW.cond rfl (fun hc => ?_) (fun hc => ?_)
   ·obtain ⟨hc, h⟩ := cT hc h
    refine AW.rgs rfl fun K hK => mv rfl rfl ?_
    refine bf hK ⟨[(2, hI 5)], []⟩ ?_
    have h := hr7 _ h
    obtain rfl := oi h
    exact AW.ret (ret_pure (.inr rfl) (resT rfl rfl) rfl trivial)
   obtain ⟨hc, h⟩ := cF hc h
   refine AW.rgs rfl fun K hK => mv rfl rfl (bv rfl (v_lenS rfl rfl ty9 rfl) (bv rfl (v_bin rfl rfl b_gtr) (mv rfl rfl ?_)))
   refine bf hK (P5 [(35, .bool (decide (32 < ((x8).length : Int))))] []) ?_
   refine AW.cond rfl (fun hc => ?_) (fun hc => ?_)
   ·obtain ⟨hc, h⟩ := cT hc h
    refine AW.rgs rfl fun K hK => mv rfl rfl ?_
    refine bf hK ⟨[(2, hI 4)], []⟩ ?_
    have h := hr7 _ h
    obtain rfl := oi h
    exact AW.ret (ret_pure (.inr rfl) (resT rfl rfl) rfl trivial)
   obtain ⟨hc, h⟩ := cF hc h
   refine AW.rgs rfl fun K hK => bv rfl (v_fieldAddrF fo24_0 rfl) (bv rfl (v_loadF ty3 rfl (l_lit rfl rfl)) (mv rfl rfl ?_))
   obtain ⟨x10, h11, h⟩ := bS h
   refine b_op rfl (o_call rfl rfl rfl rfl (ACallD.pure0 (w_word_Check h11)) ?_)
   refine bv rfl (v_bin rfl rfl b_neq) (mv rfl rfl ?_)
   refine bf hK (P5 [(39, .bool (decide (x10 ≠ 0)))] []) ?_
   refine AW.cond rfl (fun hc => ?_) (fun hc => ?_)
   ·obtain ⟨hc, h⟩ := cT hc h
    refine AW.rgs rfl fun K hK => mv rfl rfl ?_
    refine bf hK ⟨[(2, hI 13)], []⟩ ?_
    have h := hr7 _ h
    obtain rfl := oi h
    exact AW.ret (ret_pure (.inr rfl) (resT rfl rfl) rfl trivial)
   obtain ⟨hc, h⟩ := cF hc h
   refine AW.seqJ h (S := Bool) (V := Unit) (fun a v => (P4 [(27, hI a4), (45, .bool a)] [])) (fun a12 w13 h => ?_) (fun k14 h => ?_)
   ·refine AW.cond rfl (fun hc => ?_) (fun hc => ?_)
    ·have h := ifT hc h
     refine AW.rgs rfl fun K hK => mv rfl rfl ?_
     refine bf hK ⟨[(2, hI 10)], []⟩ ?_
     have h := hr7 _ h
     obtain rfl := oi h
     exact AW.ret (ret_pure (.inr rfl) (resT rfl rfl) rfl trivial)
    have h := ifF (bF' hc) h
    refine AW.skip ?_
    refine AW.rg rfl fun K hK => bv rfl (v_bin rfl rfl b_add) (mv rfl rfl ?_)
    refine b_nil (hK _ ?_)
    exact to_L ⟨IntKind.wrap .i64 (a4 + 1), (), h, rfl⟩
   refine AW.rg rfl fun K hK => mv rfl rfl (bv rfl (v_bin rfl rfl b_gtr) (mv rfl rfl ?_))
   by_cases hg19 : 0 < a4
   ·have h := ifT hg19 h
    refine b_T rfl rfl rfl rfl (decide_eq_true hg19) (o_val rfl (v_fieldAddrF fo24_1 rfl) ?_)
    refine b_T rfl rfl rfl rfl rfl (o_val rfl (v_loadF ty22 rfl (l_lit rfl rfl)) ?_)
    refine b_T rfl rfl rfl rfl rfl (o_val rfl (mv_val rfl rfl).2 ?_)
    refine b_T rfl rfl rfl rfl rfl (o_val rfl (v_bin rfl rfl b_sub) ?_)
    obtain ⟨x15, h16, h⟩ := bS h
    refine b_T rfl rfl rfl rfl rfl (o_val rfl (v_idxF ty22 es22 rfl rfl (idx_lt h16)) ?_)
    refine b_T rfl rfl rfl rfl rfl (o_val rfl (v_loadF ty9 rfl (l_cell eStr h16 (o := 0) rfl rfl)) ?_)
    refine b_T rfl rfl rfl rfl rfl (o_val rfl (mv_val rfl rfl).2 ?_)
    obtain ⟨x17, h18, h⟩ := bS h
    refine b_T rfl rfl rfl rfl rfl (o_call rfl rfl rfl rfl (ACallD.pure0 (w_code_before h18)) ?_)
    refine b_T rfl rfl rfl rfl rfl (o_val rfl (v_bin rfl rfl b_geq) ?_)
    refine bv rfl (v_pickT rfl rfl rfl) (mv rfl rfl ?_)
    refine b_nil (hK _ ?_)
    exact to_L ⟨decide (0 ≤ x17), (), h, rfl⟩
   have h := ifF hg19 h
   refine b_F rfl rfl rfl rfl rfl (decide_eq_false hg19) ?_
   iterate 8 refine b_F rfl rfl rfl rfl rfl rfl ?_
   refine bv rfl (v_pickF rfl rfl rfl) (mv rfl rfl ?_)
   refine b_nil (hK _ ?_)
   exact to_L ⟨false, (), h, rfl⟩
  obtain ⟨hc, h⟩ := cF hc h
  refine AW.exit ?_
  exact to_L ⟨(), (), h, rfl⟩
 refine AW.rg rfl fun K hK => bv rfl (v_fieldAddrF fo24_0 rfl) (bv rfl (v_loadF ty3 rfl (l_lit rfl rfl)) (bv rfl (v_bin rfl rfl b_lss) (mv rfl rfl ?_)))
 by_cases hg22 : p0.1 < 2
 ·have h := ifT hg22 h
  refine b_F rfl rfl rfl rfl rfl (decide_eq_true hg22) ?_
  iterate 2 refine b_F rfl rfl rfl rfl rfl rfl ?_
  refine bv rfl (v_pickT rfl rfl rfl) (mv rfl rfl ?_)
  refine b_nil (hK _ ?_)
  exact to_L ⟨true, (), h, rfl⟩
 have h := ifF hg22 h
 refine b_T rfl rfl rfl rfl (decide_eq_false hg22) (o_val rfl (v_fieldAddrF fo24_0 rfl) ?_)
 refine b_T rfl rfl rfl rfl rfl (o_val rfl (v_loadF ty3 rfl (l_lit rfl rfl)) ?_)
 refine b_T rfl rfl rfl rfl rfl (o_val rfl (v_bin rfl rfl b_gtr) ?_)
 refine bv rfl (v_pickF rfl rfl rfl) (mv rfl rfl ?_)
 refine b_nil (hK _ ?_)
 exact to_L ⟨decide (16 < p0.1), (), h, rfl⟩
theorem w_internal_stringslite_HasPrefix {p0 : List UInt8} {p1 : List UInt8} {r : Bool} (h : m_internal_stringslite_HasPrefix p0 p1 = some r) : Pure Tryd.prog 72 [.str p0, .str p1] (· = HV.bool r) := by
 unfold m_internal_stringslite_HasPrefix at h
 refine Pure.of_body Tryd.func72 rfl rfl (lb rfl) fun hf => ?_
 unfold Tryd.f72
 dsimp only [enumS, Nat.reduceAdd]
 refine AW.rgs rfl fun K hK => mv rfl rfl ?_
 refine bf hK ⟨[(0, .str p0), (1, .str p1)], []⟩ ?_
 refine AW.seqJ h (S := Bool) (V := Unit) (fun a v => ⟨[(4, .bool a)], []⟩) (fun a1 w2 h => ?_) (fun k3 h => ?_)
 ·obtain rfl := oi h
  exact AW.ret (ret_pure (.inr rfl) (resT rfl rfl) rfl trivial)
 refine AW.rg rfl fun K hK => mv rfl rfl (bv rfl (v_lenS rfl rfl ty9 rfl) (mv rfl rfl (bv rfl (v_lenS rfl rfl ty9 rfl) (bv rfl (v_bin rfl rfl b_geq) (mv rfl rfl ?_)))))
 by_cases hg5 : ((p1).length : Int) ≤ ((p0).length : Int)
 ·have h := ifT hg5 h
  refine b_T rfl rfl rfl rfl (decide_eq_true hg5) (o_val rfl (mv_val rfl rfl).2 ?_)
  refine b_T rfl rfl rfl rfl rfl (o_val rfl (mv_val rfl rfl).2 ?_)
  refine b_T rfl rfl rfl rfl rfl (o_val rfl (v_lenS rfl rfl ty9 rfl) ?_)
  obtain ⟨h4, h⟩ := ifN h
  refine b_T rfl rfl rfl rfl rfl (o_val rfl (v_sliceS ty9 rfl rfl rfl h4) ?_)
  refine b_T rfl rfl rfl rfl rfl (o_val rfl (mv_val rfl rfl).2 ?_)
  refine b_T rfl rfl rfl rfl rfl (o_val rfl (v_bin rfl rfl b_seql) ?_)
  refine bv rfl (v_pickT rfl rfl rfl) (mv rfl rfl ?_)
  refine b_nil (hK _ ?_)
  exact to_L ⟨decide (((p0.take (((p1).length : Int)).toNat).drop (0 : Int).toNat) = p1), (), h, rfl⟩
 have h := ifF hg5 h
 refine b_F rfl rfl rfl rfl rfl (decide_eq_false hg5) ?_
 iterate 5 refine b_F rfl rfl rfl rfl rfl rfl ?_
 refine bv rfl (v_pickF rfl rfl rfl) (mv rfl rfl ?_)
 refine b_nil (hK _ ?_)
 exact to_L ⟨false, (), h, rfl⟩
theorem w_strings_HasPrefix {p0 : List UInt8} {p1 : List UInt8} {r : Bool} (h : m_strings_HasPrefix p0 p1 = some r) : Pure Tryd.prog 60 [.str p0, .str p1] (· = HV.bool r) := by
 unfold m_strings_HasPrefix at h
 refine Pure.of_body Tryd.func60 rfl rfl (lb rfl) fun hf => ?_
 unfold Tryd.f60
 dsimp only [enumS, Nat.reduceAdd]
 refine AW.rgs rfl fun K hK => mv rfl rfl ?_
 refine bf hK ⟨[(0, .str p0), (1, .str p1)], []⟩ ?_
 refine AW.rgs rfl fun K hK => mv rfl rfl (mv rfl rfl ?_)
 obtain ⟨x1, h2, h⟩ := bS h
 refine b_op rfl (o_call rfl rfl rfl rfl (ACallD.pure0 (w_internal_stringslite_HasPrefix h2)) ?_)
 refine mv rfl rfl ?_
 refine bf hK ⟨[(4, .bool x1)], []⟩ ?_
 obtain rfl := oi h
 exact AW.ret (ret_pure (.inr rfl) (resT rfl rfl) rfl trivial)
theorem w_code_alone {p0 : TLettersWords} {r : Bool × Int} (h : m_code_alone p0 = some r) : Pure Tryd.prog 59 [.agg [hI p0.1, slE eStr p0.2], .fn (.func 60) [] []] (· = HV.tup [.bool r.1, hI r.2]) := by
 unfold m_code_alone at h
 refine Pure.of_body Tryd.func59 rfl rfl (lb rfl) fun hf => ?_
 unfold Tryd.f59
 dsimp only [enumS, Nat.reduceAdd]
 refine AW.rgs rfl fun K hK => b_op rfl (o_box rfl rfl rfl ?_)
 refine mv rfl rfl (mv rfl rfl ?_)
 let E6 : Nat × HV := (1, .fn (.func 60) [] [])
 let E7 : Nat × HV := (2, .fptr [hI p0.1, slE eStr p0.2] 0)
 refine bf hK ⟨[E6, E7], []⟩ ?_
 refine AW.seq ?_
 refine AW.rgs rfl fun K hK => bv rfl (v_loadF ty24 rfl (l_litA rfl (lb rfl) rfl)) ?_
 obtain ⟨x1, h2, h⟩ := bS h
 refine b_op rfl (o_call rfl rfl rfl rfl (ACallD.pure0 (w_code_Check h2)) ?_)
 refine bv rfl (v_bin rfl rfl b_neq) ?_
 refine bf hK ⟨[E6, E7, (12, .bool (decide (x1 ≠ 0)))], []⟩ ?_
 refine AW.cond rfl (fun hc => ?_) (fun hc => ?_)
 ·obtain ⟨hc, h⟩ := cT hc h
  refine AW.rgs rfl fun K hK => mv rfl rfl (mv rfl rfl ?_)
  refine bf hK ⟨[(4, .bool false), (5, hI 1)], []⟩ ?_
  obtain rfl := oi h
  exact AW.ret (ret_pure (.inr rfl) (resT rfl (resT rfl rfl)) rfl ⟨trivial, trivial, trivial⟩)
 obtain ⟨hc, h⟩ := cF hc h
 refine AW.skip ?_
 refine AW.seq ?_
 refine AW.rgs rfl fun K hK => bv rfl (v_fieldAddrF fo24_1 rfl) (bv rfl (v_loadF ty22 rfl (l_lit rfl rfl)) (bv rfl (v_lenF rfl rfl ty22 rfl) (mv rfl rfl ?_)))
 let E8 : Nat × HV := (15, hI ((p0.2).length : Int))
 let P6 : ASf := fun t H => ⟨E6 :: E7 :: (14, slE eStr p0.2) :: E8 :: t, H⟩
 refine bf hK (P6 [(16, hI 0)] []) ?_
 refine AW.lpR h (by first | exact up_then | exact up_to) (S := Int) (V := Unit) (fun a v => (P6 [(16, hI a)] [])) ?_ (X := Unit) (W := Unit) (fun a v => ⟨[], []⟩) (fun a23 w24 h => ?_) (fun a3 w4 st5 h hr6=> ?_)
 ·exact to_L ⟨(), rfl⟩
 ·refine AW.rgs rfl fun K hK => mv rfl rfl (mv rfl rfl ?_)
  refine bf hK ⟨[(4, .bool true), (5, hI 0)], []⟩ ?_
  obtain rfl := oi h
  exact AW.ret (ret_pure (.inr rfl) (resT rfl (resT rfl rfl)) rfl ⟨trivial, trivial, trivial⟩)
 refine AW.rgs rfl fun K hK => bv rfl (v_bin rfl rfl b_lss) ?_
 refine bf hK (P6 [(16, hI a3), (17, .bool (decide (a3 < ((p0.2).length : Int))))] []) ?_
 refine AW.cseq rfl (fun hc => ?_) (fun hc => ?_)
 ·obtain ⟨hc, h⟩ := cT hc h
  refine AW.skip ?_
  refine AW.seq (AW.block ?_)
  refine AW.rgs rfl fun K hK => mv rfl rfl ?_
  obtain ⟨x7, h8, h⟩ := bS h
  refine bv rfl (v_idxF ty22 es22 rfl rfl (idx_lt h8)) (bv rfl (v_loadF ty9 rfl (l_cell eStr h8 (o := 0) rfl rfl)) (mv rfl rfl (mv rfl rfl ?_)))
  let P7 : ASf := fun t H => ⟨E6 :: E7 :: (6, hI a3) :: (7, .str x7) :: (14, slE eStr p0.2) :: E8 :: (16, hI a3) :: t, H⟩
  refine bf hK (P7 [] []) ?_
  refine AW.rgs rfl fun K hK => bv rfl (v_fieldAddrF fo24_1 rfl) (bv rfl (v_loadF ty22 rfl (l_lit rfl rfl)) (bv rfl (v_lenF rfl rfl ty22 rfl) (mv rfl rfl ?_)))
  let E9 : Nat × HV := (23, hI ((p0.2).length : Int))
  refine bf hK (P7 [(22, slE eStr p0.2), E9, (24, hI 0)] []) ?_
  refine AW.lpR h (by first | exact up_then | exact up_to) (S := Int) (V := Unit) (fun a v => (P7 [(22, slE eStr p0.2), E9, (24, hI a)] [])) ?_ (X := Unit) (W := Unit) (fun a v => (P6 [(16, hI a3)] [])) (fun a21 w22 h => ?_) (fun a9 w10 st11 h hr12=> ?_)
  ·exact to_L ⟨(), rfl⟩
  ·refine AW.rg rfl fun K hK => bv rfl (v_bin rfl rfl b_add) (mv rfl rfl ?_)
   refine b_nil (hK _ ?_)
   exact to_L ⟨IntKind.wrap .i64 (a3 + 1), (), h, rfl⟩
  refine AW.rgs rfl fun K hK => bv rfl (v_bin rfl rfl b_lss) ?_
  refine bf hK (P7 [(22, slE eStr p0.2), E9, (24, hI a9), (25, .bool (decide (a9 < ((p0.2).length : Int))))] []) ?_
  refine AW.cseq rfl (fun hc => ?_) (fun hc => ?_)
  ·obtain ⟨hc, h⟩ := cT hc h
   refine AW.skip ?_
   refine AW.seq (AW.block ?_)
   refine AW.rgs rfl fun K hK => mv rfl rfl ?_
   obtain ⟨x13, h14, h⟩ := bS h
   refine bv rfl (v_idxF ty22 es22 rfl rfl (idx_lt h14)) (bv rfl (v_loadF ty9 rfl (l_cell eStr h14 (o := 0) rfl rfl)) (mv rfl rfl (mv rfl rfl ?_)))
   refine bf hK ⟨[E6, E7, (6, hI a3), (7, .str x7), (8, hI a9), (9, .str x13), (14, slE eStr p0.2), E8, (16, hI a3), (22, slE eStr p0.2), E9, (24, hI a9)], []⟩ ?_
   refine AW.seqJ h (S := Bool) (V := Unit) (fun a v => (P7 [(22, slE eStr p0.2), E9, (24, hI a9), (37, .bool a)] [])) (fun a15 w16 h => ?_) (fun k17 h => ?_)
   ·refine AW.cond rfl (fun hc => ?_) (fun hc => ?_)
    ·have h := ifT hc h
     refine AW.rgs rfl fun K hK => mv rfl rfl (mv rfl rfl ?_)
     refine bf hK ⟨[(4, .bool false), (5, hI 0)], []⟩ ?_
     have h := hr12 _ h
     have h := hr6 _ h
     obtain rfl := oi h
     exact AW.ret (ret_pure (.inr rfl) (resT rfl (resT rfl rfl)) rfl ⟨trivial, trivial, trivial⟩)
    have h := ifF (bF' hc) h
    refine AW.skip ?_
    refine AW.rg rfl fun K hK => bv rfl (v_bin rfl rfl b_add) (mv rfl rfl ?_)
    refine b_nil (hK _ ?_)
    exact to_L ⟨IntKind.wrap .i64 (a9 + 1), (), h, rfl⟩
   refine AW.rg rfl fun K hK => mv rfl rfl (mv rfl rfl (bv rfl (v_bin rfl rfl b_neq) (mv rfl rfl ?_)))
   by_cases hg20 : a3 ≠ a9
   ·have h := ifT hg20 h
    refine b_T rfl rfl rfl rfl (decide_eq_true hg20) (o_val rfl (mv_val rfl rfl).2 ?_)
    iterate 2 refine b_T rfl rfl rfl rfl rfl (o_val rfl (mv_val rfl rfl).2 ?_)
    obtain ⟨x18, h19, h⟩ := bS h
    refine b_T rfl rfl rfl rfl rfl (o_call rfl rfl rfl rfl (ACallD.pure0 (w_strings_HasPrefix h19)) ?_)
    refine bv rfl (v_pickT rfl rfl rfl) ?_
    refine b_nil (hK _ ?_)
    exact to_L ⟨x18, (), h, rfl⟩
   have h := ifF hg20 h
   refine b_F rfl rfl rfl rfl rfl (decide_eq_false hg20) ?_
   iterate 3 refine b_F rfl rfl rfl rfl rfl rfl ?_
   refine bv rfl (v_pickF rfl rfl rfl) ?_
   refine b_nil (hK _ ?_)
   exact to_L ⟨false, (), h, rfl⟩
  obtain ⟨hc, h⟩ := cF hc h
  refine AW.exit ?_
  exact to_L ⟨(), (), h, rfl⟩
 obtain ⟨hc, h⟩ := cF hc h
 refine AW.exit ?_
 exact to_L ⟨(), (), h, rfl⟩
theorem w_code_Prefix {p0 : TLettersWords} {r : Bool × Int} (h : m_code_Prefix p0 = some r) : Pure Tryd.prog 44 [.agg [hI p0.1, slE eStr p0.2]] (· = HV.tup [.bool r.1, hI r.2]) := by
 unfold m_code_Prefix at h
 refine Pure.of_body Tryd.func44 rfl rfl (lb rfl) fun hf => ?_
 unfold Tryd.f44
 dsimp only [enumS, Nat.reduceAdd]
 refine AW.rgs rfl fun K hK => b_op rfl (o_box rfl rfl rfl ?_)
 refine mv rfl rfl (mv rfl rfl ?_)
 refine bf hK ⟨[(1, .fptr [hI p0.1, slE eStr p0.2] 0)], []⟩ ?_
 refine AW.rgs rfl fun K hK => bv rfl (v_loadF ty24 rfl (l_litA rfl (lb rfl) rfl)) ?_
 obtain ⟨x1, h2, h⟩ := bS h
 refine b_op rfl (o_call rfl rfl rfl rfl (ACallD.pure0 (w_code_alone h2)) ?_)
 refine bv rfl (v_extract rfl rfl) (bv rfl (v_extract rfl rfl) (mv rfl rfl (mv rfl rfl ?_)))
 refine bf hK ⟨[(2, .bool x1.1), (3, hI x1.2)], []⟩ ?_
 obtain rfl := oi h
 exact AW.ret (ret_pure (.inr rfl) (resT rfl (resT rfl rfl)) rfl ⟨trivial, trivial, trivial⟩)
theorem w_parser_prefix {p0 : TLettersWords} {r : Bool} (h : m_parser_prefix p0 = some r) : Pure Tryd.prog 29 [.agg [hI p0.1, slE eStr p0.2]] (· = HV.bool r) := by
 unfold m_parser_prefix at h
 refine Pure.of_body Tryd.func29 rfl rfl (lb rfl) fun hf => ?_
 unfold Tryd.f29
 dsimp only [enumS, Nat.reduceAdd]
 refine AW.rgs rfl fun K hK => b_op rfl (o_box rfl rfl rfl ?_)
 refine mv rfl rfl ?_
 refine bf hK ⟨[(1, .fptr [hI p0.1, slE eStr p0.2] 0)], []⟩ ?_
 refine AW.rgs rfl fun K hK => bv rfl (v_loadF ty24 rfl (l_litA rfl (lb rfl) rfl)) ?_
 obtain ⟨x1, h2, h⟩ := bS h
 refine b_op rfl (o_call rfl rfl rfl rfl (ACallD.pure0 (w_code_Prefix h2)) ?_)
 refine mv rfl rfl (bv rfl (v_extract rfl rfl) (bv rfl (v_extract rfl rfl) (mv rfl rfl (mv rfl rfl ?_))))
 refine bf hK ⟨[(3, .bool x1.1), (4, hI x1.2)], []⟩ ?_
 refine AW.seqJ h (S := Bool) (V := Unit) (fun a v => ⟨[(2, .bool a)], []⟩) (fun a3 w4 h => ?_) (fun k5 h => ?_)
 ·obtain rfl := oi h
  exact AW.ret (ret_pure (.inr rfl) (resT rfl rfl) rfl trivial)
 refine AW.rg rfl fun K hK => mv rfl rfl (bv rfl (v_bin rfl rfl b_eql) (mv rfl rfl ?_))
 by_cases hg6 : x1.2 = 0
 ·have h := ifT hg6 h
  refine b_T rfl rfl rfl rfl (decide_eq_true hg6) (o_val rfl (mv_val rfl rfl).2 ?_)
  refine bv rfl (v_pickT rfl rfl rfl) (mv rfl rfl ?_)
  refine b_nil (hK _ ?_)
  exact to_L ⟨x1.1, (), h, rfl⟩
 have h := ifF hg6 h
 refine b_F rfl rfl rfl rfl rfl (decide_eq_false hg6) ?_
 refine bv rfl (v_pickF rfl rfl rfl) (mv rfl rfl ?_)
 refine b_nil (hK _ ?_)
 exact to_L ⟨false, (), h, rfl⟩
theorem w_slices_Index_Lstring_string {p0 : List (List UInt8)} {p1 : List UInt8} {r : Int} (h : m_slices_Index_Lstring_string p0 p1 = some r) : Pure Tryd.prog 50 [slE eStr p0, .str p1] (· = hI r) := by
 unfold m_slices_Index_Lstring_string at h
 refine Pure.of_body Tryd.func50 rfl rfl (lb rfl) fun hf => ?_
 unfold Tryd.f50
 dsimp only [enumS, Nat.reduceAdd]
 refine AW.rgs rfl fun K hK => mv rfl rfl ?_
 let P1 : ASf := fun t H => ⟨(0, slE eStr p0) :: (1, .str p1) :: t, H⟩
 refine bf hK (P1 [] []) ?_
 refine AW.seq ?_
 refine AW.rgs rfl fun K hK => mv rfl rfl (bv rfl (v_lenF rfl rfl ty22 rfl) (mv rfl rfl ?_))
 let E1 : Nat × HV := (7, hI ((p0).length : Int))
 refine bf hK (P1 [E1, (8, hI 0)] []) ?_
 refine AW.lpR h (by first | exact up_then | exact up_to) (S := Int) (V := Unit) (fun a v => (P1 [E1, (8, hI a)] [])) ?_ (X := Unit) (W := Unit) (fun a v => ⟨[], []⟩) (fun a7 w8 h => ?_) (fun a1 w2 st3 h hr4=> ?_)
 ·exact to_L ⟨(), rfl⟩
 ·refine AW.rgs rfl fun K hK => mv rfl rfl ?_
  refine bf hK ⟨[(4, hI (-1))], []⟩ ?_
  obtain rfl := oi h
  exact AW.ret (ret_pure (.inr rfl) (resT rfl rfl) rfl trivial)
 refine AW.rgs rfl fun K hK => bv rfl (v_bin rfl rfl b_lss) ?_
 refine bf hK (P1 [E1, (8, hI a1), (9, .bool (decide (a1 < ((p0).length : Int))))] []) ?_
 refine AW.cseq rfl (fun hc => ?_) (fun hc => ?_)
 ·obtain ⟨hc, h⟩ := cT hc h
  refine AW.skip ?_
  refine AW.seq (AW.block ?_)
  refine AW.rgs rfl fun K hK => mv rfl rfl (mv rfl rfl ?_)
  refine bf hK (P1 [(5, hI a1), E1, (8, hI a1)] []) ?_
  refine AW.rgs rfl fun K hK => mv rfl rfl (mv rfl rfl (mv rfl rfl ?_))
  obtain ⟨x5, h6, h⟩ := bS h
  refine bv rfl (v_idxF ty22 es22 rfl rfl (idx_lt h6)) (bv rfl (v_loadF ty9 rfl (l_cell eStr h6 (o := 0) rfl rfl)) (bv rfl (v_bin rfl rfl b_seql) ?_))
  refine bf hK (P1 [(5, hI a1), E1, (8, hI a1), (16, .bool (decide (p1 = x5)))] []) ?_
  refine AW.cond rfl (fun hc => ?_) (fun hc => ?_)
  ·obtain ⟨hc, h⟩ := cT hc h
   refine AW.rgs rfl fun K hK => mv rfl rfl (mv rfl rfl ?_)
   refine bf hK ⟨[(4, hI a1)], []⟩ ?_
   have h := hr4 _ h
   obtain rfl := oi h
   exact AW.ret (ret_pure (.inr rfl) (resT rfl rfl) rfl trivial)
  obtain ⟨hc, h⟩ := cF hc h
  refine AW.skip ?_
  refine AW.rg rfl fun K hK => bv rfl (v_bin rfl rfl b_add) (mv rfl rfl ?_)
  refine b_nil (hK _ ?_)
  exact to_L ⟨IntKind.wrap .i64 (a1 + 1), (), h, rfl⟩
 obtain ⟨hc, h⟩ := cF hc h
 refine AW.exit ?_
 exact to_L ⟨(), (), h, rfl⟩
end Go.AW
