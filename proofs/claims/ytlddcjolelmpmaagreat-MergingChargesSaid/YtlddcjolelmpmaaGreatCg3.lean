import Derived.Test.YtlddcjolelmpmaaGreatCg2
import Derived.Laws.Externs
import Derived.Lib.Builder
import Derived.Lib.Bytealg
import Derived.Lib.Slices
import Derived.Lib.Strings
import Derived.Lib.UnsafeStr
import Derived.Lib.Walk
import Derived.Shelf.RegionOpenPlain
import Derived.Shelf.Slices.CompactI
import Derived.Shelf.SortM.Plain
import Derived.Shelf.SortM.SortNone
import Derived.Shelf.Strings.Count
import Derived.Test.YtlddcjolelmpmaaGreatChecked
import Derived.Test.YtlddcjolelmpmaaGreatProg
import Derived.WalkKit
namespace Go.AW
open Go Go.Proofs
theorem ty0 : ty Tryz.prog 0 = some { desc := TypeDesc.tuple #[], size := 1, bytes := 0, zero := Value.tuple #[] } := by kernel_rfl
theorem ty1 : ty Tryz.prog 1 = some { desc := TypeDesc.func #[] #[] false, size := 1, bytes := 8, zero := Value.nilFunc } := by kernel_rfl
theorem ty2 : ty Tryz.prog 2 = some { desc := TypeDesc.int IntKind.i64, size := 1, bytes := 8, zero := Value.int IntKind.i64 (0) } := by kernel_rfl
theorem ty3 : ty Tryz.prog 3 = some { desc := TypeDesc.int IntKind.i64, size := 1, bytes := 8, zero := Value.int IntKind.i64 (0) } := by kernel_rfl
theorem ty4 : ty Tryz.prog 4 = some { desc := TypeDesc.bool, size := 1, bytes := 1, zero := Value.bool false } := by kernel_rfl
theorem ty5 : ty Tryz.prog 5 = some { desc := TypeDesc.int IntKind.u8, size := 1, bytes := 1, zero := Value.int IntKind.u8 (0) } := by kernel_rfl
theorem ty6 : ty Tryz.prog 6 = some { desc := TypeDesc.int IntKind.u8, size := 1, bytes := 1, zero := Value.int IntKind.u8 (0) } := by kernel_rfl
theorem ty9 : ty Tryz.prog 9 = some { desc := TypeDesc.string, size := 1, bytes := 16, zero := Value.string { data := #[] } } := by kernel_rfl
theorem ty10 : ty Tryz.prog 10 = some { desc := TypeDesc.string, size := 1, bytes := 16, zero := Value.string { data := #[] } } := by kernel_rfl
theorem ty11 : ty Tryz.prog 11 = some { desc := TypeDesc.string, size := 1, bytes := 16, zero := Value.string { data := #[] } } := by kernel_rfl
theorem ty12 : ty Tryz.prog 12 = some { desc := TypeDesc.int IntKind.u64, size := 1, bytes := 8, zero := Value.int IntKind.u64 (0) } := by kernel_rfl
theorem ty13 : ty Tryz.prog 13 = some { desc := TypeDesc.struct { toList := [{ name := "msg", type := 9, offset := 0, embedded := false, tag := "", pkgPath := "runtime", byteOffset := 0 }, { name := "addr", type := 12, offset := 1, embedded := false, tag := "", pkgPath := "runtime", byteOffset := 16 }] }, size := 2, bytes := 24, zero := Value.agg #[Value.string { data := #[] }, Value.int IntKind.u64 (0)] } := by kernel_rfl
theorem ty14 : ty Tryz.prog 14 = some { desc := TypeDesc.struct { toList := [{ name := "msg", type := 9, offset := 0, embedded := false, tag := "", pkgPath := "runtime", byteOffset := 0 }, { name := "addr", type := 12, offset := 1, embedded := false, tag := "", pkgPath := "runtime", byteOffset := 16 }] }, size := 2, bytes := 24, zero := Value.agg #[Value.string { data := #[] }, Value.int IntKind.u64 (0)] } := by kernel_rfl
theorem ty15 : ty Tryz.prog 15 = some { desc := TypeDesc.pointer 246, size := 1, bytes := 8, zero := Value.pointer none } := by kernel_rfl
theorem ty16 : ty Tryz.prog 16 = some { desc := TypeDesc.pointer 249, size := 1, bytes := 8, zero := Value.pointer none } := by kernel_rfl
theorem ty17 : ty Tryz.prog 17 = some { desc := TypeDesc.pointer 256, size := 1, bytes := 8, zero := Value.pointer none } := by kernel_rfl
theorem ty18 : ty Tryz.prog 18 = some { desc := TypeDesc.struct { toList := [{ name := "typ", type := 17, offset := 0, embedded := false, tag := "", pkgPath := "internal/runtime/maps", byteOffset := 0 }] }, size := 1, bytes := 8, zero := Value.agg #[Value.pointer none] } := by kernel_rfl
theorem ty19 : ty Tryz.prog 19 = some { desc := TypeDesc.struct { toList := [{ name := "typ", type := 17, offset := 0, embedded := false, tag := "", pkgPath := "internal/runtime/maps", byteOffset := 0 }] }, size := 1, bytes := 8, zero := Value.agg #[Value.pointer none] } := by kernel_rfl
theorem ty20 : ty Tryz.prog 20 = some { desc := TypeDesc.interface #[], size := 1, bytes := 16, zero := Value.nilIface } := by kernel_rfl
theorem ty21 : ty Tryz.prog 21 = some { desc := TypeDesc.int IntKind.i32, size := 1, bytes := 4, zero := Value.int IntKind.i32 (0) } := by kernel_rfl
theorem ty22 : ty Tryz.prog 22 = some { desc := TypeDesc.slice 9, size := 1, bytes := 24, zero := Value.slice none 0 0 } := by kernel_rfl
theorem ty23 : ty Tryz.prog 23 = some { desc := TypeDesc.struct { toList := [{ name := "Words", type := 22, offset := 0, embedded := false, tag := "", pkgPath := "", byteOffset := 0 }, { name := "Merges", type := 22, offset := 1, embedded := false, tag := "", pkgPath := "", byteOffset := 24 }] }, size := 2, bytes := 48, zero := Value.agg #[Value.slice none 0 0, Value.slice none 0 0] } := by kernel_rfl
theorem ty24 : ty Tryz.prog 24 = some { desc := TypeDesc.struct { toList := [{ name := "Words", type := 22, offset := 0, embedded := false, tag := "", pkgPath := "", byteOffset := 0 }, { name := "Merges", type := 22, offset := 1, embedded := false, tag := "", pkgPath := "", byteOffset := 24 }] }, size := 2, bytes := 48, zero := Value.agg #[Value.slice none 0 0, Value.slice none 0 0] } := by kernel_rfl
theorem ty25 : ty Tryz.prog 25 = some { desc := TypeDesc.slice 128, size := 1, bytes := 24, zero := Value.slice none 0 0 } := by kernel_rfl
theorem ty26 : ty Tryz.prog 26 = some { desc := TypeDesc.struct { toList := [{ name := "Labels", type := 3, offset := 0, embedded := false, tag := "", pkgPath := "", byteOffset := 0 }, { name := "States", type := 3, offset := 1, embedded := false, tag := "", pkgPath := "", byteOffset := 8 }, { name := "Edges", type := 25, offset := 2, embedded := false, tag := "", pkgPath := "", byteOffset := 16 }] }, size := 3, bytes := 40, zero := Value.agg #[Value.int IntKind.i64 (0), Value.int IntKind.i64 (0), Value.slice none 0 0] } := by kernel_rfl
theorem ty27 : ty Tryz.prog 27 = some { desc := TypeDesc.struct { toList := [{ name := "Labels", type := 3, offset := 0, embedded := false, tag := "", pkgPath := "", byteOffset := 0 }, { name := "States", type := 3, offset := 1, embedded := false, tag := "", pkgPath := "", byteOffset := 8 }, { name := "Edges", type := 25, offset := 2, embedded := false, tag := "", pkgPath := "", byteOffset := 16 }] }, size := 3, bytes := 40, zero := Value.agg #[Value.int IntKind.i64 (0), Value.int IntKind.i64 (0), Value.slice none 0 0] } := by kernel_rfl
theorem ty28 : ty Tryz.prog 28 = some { desc := TypeDesc.slice 5, size := 1, bytes := 24, zero := Value.slice none 0 0 } := by kernel_rfl
theorem ty29 : ty Tryz.prog 29 = some { desc := TypeDesc.func #[24, 27] #[4] false, size := 1, bytes := 8, zero := Value.nilFunc } := by kernel_rfl
theorem ty30 : ty Tryz.prog 30 = some { desc := TypeDesc.func #[] #[4] false, size := 1, bytes := 8, zero := Value.nilFunc } := by kernel_rfl
theorem ty31 : ty Tryz.prog 31 = some { desc := TypeDesc.slice 3, size := 1, bytes := 24, zero := Value.slice none 0 0 } := by kernel_rfl
theorem ty32 : ty Tryz.prog 32 = some { desc := TypeDesc.func #[24, 28] #[31] false, size := 1, bytes := 8, zero := Value.nilFunc } := by kernel_rfl
theorem ty33 : ty Tryz.prog 33 = some { desc := TypeDesc.int IntKind.i64, size := 1, bytes := 8, zero := Value.int IntKind.i64 (0) } := by kernel_rfl
theorem ty34 : ty Tryz.prog 34 = some { desc := TypeDesc.tuple #[9, 33], size := 1, bytes := 0, zero := Value.tuple #[Value.string { data := #[] }, Value.int IntKind.i64 (0)] } := by kernel_rfl
theorem ty35 : ty Tryz.prog 35 = some { desc := TypeDesc.func #[24, 27, 31] #[9, 33] false, size := 1, bytes := 8, zero := Value.nilFunc } := by kernel_rfl
theorem ty36 : ty Tryz.prog 36 = some { desc := TypeDesc.tuple #[4, 33], size := 1, bytes := 0, zero := Value.tuple #[Value.bool false, Value.int IntKind.i64 (0)] } := by kernel_rfl
theorem ty37 : ty Tryz.prog 37 = some { desc := TypeDesc.func #[27, 9] #[4, 33] false, size := 1, bytes := 8, zero := Value.nilFunc } := by kernel_rfl
theorem ty38 : ty Tryz.prog 38 = some { desc := TypeDesc.func #[9] #[3] false, size := 1, bytes := 8, zero := Value.nilFunc } := by kernel_rfl
theorem ty39 : ty Tryz.prog 39 = some { desc := TypeDesc.func #[24, 27, 28] #[4] false, size := 1, bytes := 8, zero := Value.nilFunc } := by kernel_rfl
theorem ty40 : ty Tryz.prog 40 = some { desc := TypeDesc.func #[24] #[4] false, size := 1, bytes := 8, zero := Value.nilFunc } := by kernel_rfl
theorem ty41 : ty Tryz.prog 41 = some { desc := TypeDesc.struct { toList := [{ name := "Neg", type := 4, offset := 0, embedded := false, tag := "", pkgPath := "", byteOffset := 0 }, { name := "Mag", type := 9, offset := 1, embedded := false, tag := "", pkgPath := "", byteOffset := 8 }] }, size := 2, bytes := 24, zero := Value.agg #[Value.bool false, Value.string { data := #[] }] } := by kernel_rfl
theorem ty42 : ty Tryz.prog 42 = some { desc := TypeDesc.struct { toList := [{ name := "Neg", type := 4, offset := 0, embedded := false, tag := "", pkgPath := "", byteOffset := 0 }, { name := "Mag", type := 9, offset := 1, embedded := false, tag := "", pkgPath := "", byteOffset := 8 }] }, size := 2, bytes := 24, zero := Value.agg #[Value.bool false, Value.string { data := #[] }] } := by kernel_rfl
theorem ty43 : ty Tryz.prog 43 = some { desc := TypeDesc.struct { toList := [{ name := "Num", type := 42, offset := 0, embedded := false, tag := "", pkgPath := "", byteOffset := 0 }, { name := "Den", type := 42, offset := 2, embedded := false, tag := "", pkgPath := "", byteOffset := 24 }] }, size := 4, bytes := 48, zero := Value.agg { toList := [Value.bool false, Value.string { data := #[] }, Value.bool false, Value.string { data := #[] }] } } := by kernel_rfl
theorem ty44 : ty Tryz.prog 44 = some { desc := TypeDesc.struct { toList := [{ name := "Num", type := 42, offset := 0, embedded := false, tag := "", pkgPath := "", byteOffset := 0 }, { name := "Den", type := 42, offset := 2, embedded := false, tag := "", pkgPath := "", byteOffset := 24 }] }, size := 4, bytes := 48, zero := Value.agg { toList := [Value.bool false, Value.string { data := #[] }, Value.bool false, Value.string { data := #[] }] } } := by kernel_rfl
theorem ty45 : ty Tryz.prog 45 = some { desc := TypeDesc.tuple #[44, 33], size := 1, bytes := 0, zero := Value.tuple { toList := [Value.agg { toList := [Value.bool false, Value.string { data := #[] }, Value.bool false, Value.string { data := #[] }] }, Value.int IntKind.i64 (0)] } } := by kernel_rfl
theorem ty46 : ty Tryz.prog 46 = some { desc := TypeDesc.func #[24] #[44, 33] false, size := 1, bytes := 8, zero := Value.nilFunc } := by kernel_rfl
theorem ty47 : ty Tryz.prog 47 = some { desc := TypeDesc.func #[3, 3] #[44, 33] false, size := 1, bytes := 8, zero := Value.nilFunc } := by kernel_rfl
theorem ty48 : ty Tryz.prog 48 = some { desc := TypeDesc.func #[44, 44] #[3] false, size := 1, bytes := 8, zero := Value.nilFunc } := by kernel_rfl
theorem ty49 : ty Tryz.prog 49 = some { desc := TypeDesc.func #[42] #[44] false, size := 1, bytes := 8, zero := Value.nilFunc } := by kernel_rfl
theorem ty50 : ty Tryz.prog 50 = some { desc := TypeDesc.func #[3] #[42] false, size := 1, bytes := 8, zero := Value.nilFunc } := by kernel_rfl
theorem ty51 : ty Tryz.prog 51 = some { desc := TypeDesc.tuple #[31, 33], size := 1, bytes := 0, zero := Value.tuple #[Value.slice none 0 0, Value.int IntKind.i64 (0)] } := by kernel_rfl
theorem ty52 : ty Tryz.prog 52 = some { desc := TypeDesc.func #[24, 27, 3, 3] #[31, 33] false, size := 1, bytes := 8, zero := Value.nilFunc } := by kernel_rfl
theorem ty53 : ty Tryz.prog 53 = some { desc := TypeDesc.func #[31, 3] #[4] false, size := 1, bytes := 8, zero := Value.nilFunc } := by kernel_rfl
theorem ty54 : ty Tryz.prog 54 = some { desc := TypeDesc.func #[9, 9] #[4] false, size := 1, bytes := 8, zero := Value.nilFunc } := by kernel_rfl
theorem ty55 : ty Tryz.prog 55 = some { desc := TypeDesc.func #[31] #[4] false, size := 1, bytes := 8, zero := Value.nilFunc } := by kernel_rfl
theorem ty56 : ty Tryz.prog 56 = some { desc := TypeDesc.func #[24, 27, 5, 5] #[4] false, size := 1, bytes := 8, zero := Value.nilFunc } := by kernel_rfl
theorem ty57 : ty Tryz.prog 57 = some { desc := TypeDesc.func #[9, 3] #[4] false, size := 1, bytes := 8, zero := Value.nilFunc } := by kernel_rfl
theorem ty58 : ty Tryz.prog 58 = some { desc := TypeDesc.func #[24, 9] #[31, 33] false, size := 1, bytes := 8, zero := Value.nilFunc } := by kernel_rfl
theorem ty59 : ty Tryz.prog 59 = some { desc := TypeDesc.func #[24, 27] #[33] false, size := 1, bytes := 8, zero := Value.nilFunc } := by kernel_rfl
theorem ty60 : ty Tryz.prog 60 = some { desc := TypeDesc.func #[31, 31] #[4] false, size := 1, bytes := 8, zero := Value.nilFunc } := by kernel_rfl
theorem ty61 : ty Tryz.prog 61 = some { desc := TypeDesc.func #[24, 27, 3, 3, 9] #[4] false, size := 1, bytes := 8, zero := Value.nilFunc } := by kernel_rfl
theorem ty62 : ty Tryz.prog 62 = some { desc := TypeDesc.func #[22, 9] #[4] false, size := 1, bytes := 8, zero := Value.nilFunc } := by kernel_rfl
theorem ty63 : ty Tryz.prog 63 = some { desc := TypeDesc.tuple #[3, 3, 33], size := 1, bytes := 0, zero := Value.tuple { toList := [Value.int IntKind.i64 (0), Value.int IntKind.i64 (0), Value.int IntKind.i64 (0)] } } := by kernel_rfl
theorem ty64 : ty Tryz.prog 64 = some { desc := TypeDesc.func #[24, 27, 31] #[3, 3, 33] false, size := 1, bytes := 8, zero := Value.nilFunc } := by kernel_rfl
theorem ty65 : ty Tryz.prog 65 = some { desc := TypeDesc.func #[24, 27, 31] #[4] false, size := 1, bytes := 8, zero := Value.nilFunc } := by kernel_rfl
theorem ty66 : ty Tryz.prog 66 = some { desc := TypeDesc.func #[9] #[31, 33] false, size := 1, bytes := 8, zero := Value.nilFunc } := by kernel_rfl
theorem ty67 : ty Tryz.prog 67 = some { desc := TypeDesc.func #[31] #[3] false, size := 1, bytes := 8, zero := Value.nilFunc } := by kernel_rfl
theorem ty68 : ty Tryz.prog 68 = some { desc := TypeDesc.func #[27] #[4] false, size := 1, bytes := 8, zero := Value.nilFunc } := by kernel_rfl
theorem ty69 : ty Tryz.prog 69 = some { desc := TypeDesc.tuple #[24, 33], size := 1, bytes := 0, zero := Value.tuple { toList := [Value.agg #[Value.slice none 0 0, Value.slice none 0 0], Value.int IntKind.i64 (0)] } } := by kernel_rfl
theorem ty70 : ty Tryz.prog 70 = some { desc := TypeDesc.func #[27, 3, 3, 3] #[24, 33] false, size := 1, bytes := 8, zero := Value.nilFunc } := by kernel_rfl
theorem ty71 : ty Tryz.prog 71 = some { desc := TypeDesc.func #[24, 24] #[4] false, size := 1, bytes := 8, zero := Value.nilFunc } := by kernel_rfl
theorem ty72 : ty Tryz.prog 72 = some { desc := TypeDesc.func #[27, 3, 3, 3] #[4] false, size := 1, bytes := 8, zero := Value.nilFunc } := by kernel_rfl
theorem ty73 : ty Tryz.prog 73 = some { desc := TypeDesc.func #[22] #[4] false, size := 1, bytes := 8, zero := Value.nilFunc } := by kernel_rfl
theorem ty74 : ty Tryz.prog 74 = some { desc := TypeDesc.func #[22, 22] #[4] false, size := 1, bytes := 8, zero := Value.nilFunc } := by kernel_rfl
theorem ty75 : ty Tryz.prog 75 = some { desc := TypeDesc.func #[27, 5, 5, 5] #[4] false, size := 1, bytes := 8, zero := Value.nilFunc } := by kernel_rfl
theorem ty76 : ty Tryz.prog 76 = some { desc := TypeDesc.func #[] #[27] false, size := 1, bytes := 8, zero := Value.nilFunc } := by kernel_rfl
theorem ty77 : ty Tryz.prog 77 = some { desc := TypeDesc.func #[24, 27, 31] #[33] true, size := 1, bytes := 8, zero := Value.nilFunc } := by kernel_rfl
theorem ty78 : ty Tryz.prog 78 = some { desc := TypeDesc.pointer 80, size := 1, bytes := 8, zero := Value.pointer none } := by kernel_rfl
theorem ty79 : ty Tryz.prog 79 = some { desc := TypeDesc.struct { toList := [{ name := "addr", type := 78, offset := 0, embedded := false, tag := "", pkgPath := "strings", byteOffset := 0 }, { name := "buf", type := 28, offset := 1, embedded := false, tag := "", pkgPath := "strings", byteOffset := 8 }] }, size := 2, bytes := 32, zero := Value.agg #[Value.pointer none, Value.slice none 0 0] } := by kernel_rfl
theorem ty80 : ty Tryz.prog 80 = some { desc := TypeDesc.struct { toList := [{ name := "addr", type := 78, offset := 0, embedded := false, tag := "", pkgPath := "strings", byteOffset := 0 }, { name := "buf", type := 28, offset := 1, embedded := false, tag := "", pkgPath := "strings", byteOffset := 8 }] }, size := 2, bytes := 32, zero := Value.agg #[Value.pointer none, Value.slice none 0 0] } := by kernel_rfl
theorem ty81 : ty Tryz.prog 81 = some { desc := TypeDesc.interface #[("Error", 90)], size := 1, bytes := 16, zero := Value.nilIface } := by kernel_rfl
theorem ty82 : ty Tryz.prog 82 = some { desc := TypeDesc.interface #[("Error", 90)], size := 1, bytes := 16, zero := Value.nilIface } := by kernel_rfl
theorem ty83 : ty Tryz.prog 83 = some { desc := TypeDesc.tuple #[3, 82], size := 1, bytes := 0, zero := Value.tuple #[Value.int IntKind.i64 (0), Value.nilIface] } := by kernel_rfl
theorem ty84 : ty Tryz.prog 84 = some { desc := TypeDesc.func #[9] #[3, 82] false, size := 1, bytes := 8, zero := Value.nilFunc } := by kernel_rfl
theorem ty85 : ty Tryz.prog 85 = some { desc := TypeDesc.func #[27, 31, 9] #[31] false, size := 1, bytes := 8, zero := Value.nilFunc } := by kernel_rfl
theorem ty86 : ty Tryz.prog 86 = some { desc := TypeDesc.func #[9] #[] false, size := 1, bytes := 8, zero := Value.nilFunc } := by kernel_rfl
theorem ty87 : ty Tryz.prog 87 = some { desc := TypeDesc.tuple #[9, 4], size := 1, bytes := 0, zero := Value.tuple #[Value.string { data := #[] }, Value.bool false] } := by kernel_rfl
theorem ty88 : ty Tryz.prog 88 = some { desc := TypeDesc.func #[22, 89] #[9, 4] false, size := 1, bytes := 8, zero := Value.nilFunc } := by kernel_rfl
theorem ty89 : ty Tryz.prog 89 = some { desc := TypeDesc.func #[9] #[3, 4] false, size := 1, bytes := 8, zero := Value.nilFunc } := by kernel_rfl
theorem ty90 : ty Tryz.prog 90 = some { desc := TypeDesc.func #[] #[9] false, size := 1, bytes := 8, zero := Value.nilFunc } := by kernel_rfl
theorem ty91 : ty Tryz.prog 91 = some { desc := TypeDesc.func #[27, 9] #[33] false, size := 1, bytes := 8, zero := Value.nilFunc } := by kernel_rfl
theorem ty92 : ty Tryz.prog 92 = some { desc := TypeDesc.func #[27] #[31] false, size := 1, bytes := 8, zero := Value.nilFunc } := by kernel_rfl
theorem ty93 : ty Tryz.prog 93 = some { desc := TypeDesc.tuple #[3, 33], size := 1, bytes := 0, zero := Value.tuple #[Value.int IntKind.i64 (0), Value.int IntKind.i64 (0)] } := by kernel_rfl
theorem ty94 : ty Tryz.prog 94 = some { desc := TypeDesc.func #[9] #[3, 33] false, size := 1, bytes := 8, zero := Value.nilFunc } := by kernel_rfl
theorem ty95 : ty Tryz.prog 95 = some { desc := TypeDesc.func #[24] #[33] false, size := 1, bytes := 8, zero := Value.nilFunc } := by kernel_rfl
theorem ty96 : ty Tryz.prog 96 = some { desc := TypeDesc.func #[97] #[3] false, size := 1, bytes := 8, zero := Value.nilFunc } := by kernel_rfl
theorem ty97 : ty Tryz.prog 97 = some { desc := TypeDesc.int IntKind.u64, size := 1, bytes := 8, zero := Value.int IntKind.u64 (0) } := by kernel_rfl
theorem ty98 : ty Tryz.prog 98 = some { desc := TypeDesc.func #[42, 42] #[44, 33] false, size := 1, bytes := 8, zero := Value.nilFunc } := by kernel_rfl
theorem ty99 : ty Tryz.prog 99 = some { desc := TypeDesc.func #[44] #[44] false, size := 1, bytes := 8, zero := Value.nilFunc } := by kernel_rfl
theorem ty100 : ty Tryz.prog 100 = some { desc := TypeDesc.func #[42, 42] #[3] false, size := 1, bytes := 8, zero := Value.nilFunc } := by kernel_rfl
theorem ty101 : ty Tryz.prog 101 = some { desc := TypeDesc.func #[42, 42] #[42] false, size := 1, bytes := 8, zero := Value.nilFunc } := by kernel_rfl
theorem ty102 : ty Tryz.prog 102 = some { desc := TypeDesc.func #[42, 42] #[44] false, size := 1, bytes := 8, zero := Value.nilFunc } := by kernel_rfl
theorem ty103 : ty Tryz.prog 103 = some { desc := TypeDesc.int IntKind.u64, size := 1, bytes := 8, zero := Value.int IntKind.u64 (0) } := by kernel_rfl
theorem ty104 : ty Tryz.prog 104 = some { desc := TypeDesc.func #[4, 107] #[42] false, size := 1, bytes := 8, zero := Value.nilFunc } := by kernel_rfl
theorem ty105 : ty Tryz.prog 105 = some { desc := TypeDesc.int IntKind.u32, size := 1, bytes := 4, zero := Value.int IntKind.u32 (0) } := by kernel_rfl
theorem ty106 : ty Tryz.prog 106 = some { desc := TypeDesc.slice 105, size := 1, bytes := 24, zero := Value.slice none 0 0 } := by kernel_rfl
theorem ty107 : ty Tryz.prog 107 = some { desc := TypeDesc.slice 105, size := 1, bytes := 24, zero := Value.slice none 0 0 } := by kernel_rfl
theorem ty108 : ty Tryz.prog 108 = some { desc := TypeDesc.func #[27, 9] #[4] false, size := 1, bytes := 8, zero := Value.nilFunc } := by kernel_rfl
theorem ty109 : ty Tryz.prog 109 = some { desc := TypeDesc.func #[31, 3] #[3] false, size := 1, bytes := 8, zero := Value.nilFunc } := by kernel_rfl
theorem ty110 : ty Tryz.prog 110 = some { desc := TypeDesc.func #[3, 3] #[4] false, size := 1, bytes := 8, zero := Value.nilFunc } := by kernel_rfl
theorem ty111 : ty Tryz.prog 111 = some { desc := TypeDesc.func #[22, 9] #[3] false, size := 1, bytes := 8, zero := Value.nilFunc } := by kernel_rfl
theorem ty112 : ty Tryz.prog 112 = some { desc := TypeDesc.func #[27] #[33] false, size := 1, bytes := 8, zero := Value.nilFunc } := by kernel_rfl
theorem ty113 : ty Tryz.prog 113 = some { desc := TypeDesc.func #[22, 114] #[4] false, size := 1, bytes := 8, zero := Value.nilFunc } := by kernel_rfl
theorem ty114 : ty Tryz.prog 114 = some { desc := TypeDesc.func #[9] #[4] false, size := 1, bytes := 8, zero := Value.nilFunc } := by kernel_rfl
theorem ty115 : ty Tryz.prog 115 = some { desc := TypeDesc.func #[27, 22, 9, 9] #[4] false, size := 1, bytes := 8, zero := Value.nilFunc } := by kernel_rfl
theorem ty116 : ty Tryz.prog 116 = some { desc := TypeDesc.func #[22, 27, 9, 9] #[4] false, size := 1, bytes := 8, zero := Value.nilFunc } := by kernel_rfl
theorem ty117 : ty Tryz.prog 117 = some { desc := TypeDesc.func #[9] #[3, 3, 33] false, size := 1, bytes := 8, zero := Value.nilFunc } := by kernel_rfl
theorem ty118 : ty Tryz.prog 118 = some { desc := TypeDesc.func #[3, 9] #[33] false, size := 1, bytes := 8, zero := Value.nilFunc } := by kernel_rfl
theorem ty119 : ty Tryz.prog 119 = some { desc := TypeDesc.func #[9] #[31] false, size := 1, bytes := 8, zero := Value.nilFunc } := by kernel_rfl
theorem ty120 : ty Tryz.prog 120 = some { desc := TypeDesc.func #[27] #[4, 33] false, size := 1, bytes := 8, zero := Value.nilFunc } := by kernel_rfl
theorem ty121 : ty Tryz.prog 121 = some { desc := TypeDesc.tuple #[22, 33], size := 1, bytes := 0, zero := Value.tuple #[Value.slice none 0 0, Value.int IntKind.i64 (0)] } := by kernel_rfl
theorem ty122 : ty Tryz.prog 122 = some { desc := TypeDesc.func #[27, 3] #[22, 33] false, size := 1, bytes := 8, zero := Value.nilFunc } := by kernel_rfl
theorem ty123 : ty Tryz.prog 123 = some { desc := TypeDesc.func #[3, 3] #[22, 33] false, size := 1, bytes := 8, zero := Value.nilFunc } := by kernel_rfl
theorem ty124 : ty Tryz.prog 124 = some { desc := TypeDesc.func #[114] #[] false, size := 1, bytes := 8, zero := Value.nilFunc } := by kernel_rfl
theorem ty125 : ty Tryz.prog 125 = some { desc := TypeDesc.func #[114] #[] false, size := 1, bytes := 8, zero := Value.nilFunc } := by kernel_rfl
theorem ty126 : ty Tryz.prog 126 = some { desc := TypeDesc.func #[27, 22, 22] #[125] false, size := 1, bytes := 8, zero := Value.nilFunc } := by kernel_rfl
theorem ty127 : ty Tryz.prog 127 = some { desc := TypeDesc.struct { toList := [{ name := "From", type := 3, offset := 0, embedded := false, tag := "", pkgPath := "", byteOffset := 0 }, { name := "Label", type := 3, offset := 1, embedded := false, tag := "", pkgPath := "", byteOffset := 8 }, { name := "To", type := 3, offset := 2, embedded := false, tag := "", pkgPath := "", byteOffset := 16 }] }, size := 3, bytes := 24, zero := Value.agg { toList := [Value.int IntKind.i64 (0), Value.int IntKind.i64 (0), Value.int IntKind.i64 (0)] } } := by kernel_rfl
theorem ty128 : ty Tryz.prog 128 = some { desc := TypeDesc.struct { toList := [{ name := "From", type := 3, offset := 0, embedded := false, tag := "", pkgPath := "", byteOffset := 0 }, { name := "Label", type := 3, offset := 1, embedded := false, tag := "", pkgPath := "", byteOffset := 8 }, { name := "To", type := 3, offset := 2, embedded := false, tag := "", pkgPath := "", byteOffset := 16 }] }, size := 3, bytes := 24, zero := Value.agg { toList := [Value.int IntKind.i64 (0), Value.int IntKind.i64 (0), Value.int IntKind.i64 (0)] } } := by kernel_rfl
theorem ty129 : ty Tryz.prog 129 = some { desc := TypeDesc.func #[31, 130] #[4] false, size := 1, bytes := 8, zero := Value.nilFunc } := by kernel_rfl
theorem ty130 : ty Tryz.prog 130 = some { desc := TypeDesc.func #[3] #[4] false, size := 1, bytes := 8, zero := Value.nilFunc } := by kernel_rfl
theorem ty131 : ty Tryz.prog 131 = some { desc := TypeDesc.func #[27, 31, 3] #[31, 33] false, size := 1, bytes := 8, zero := Value.nilFunc } := by kernel_rfl
theorem ty132 : ty Tryz.prog 132 = some { desc := TypeDesc.func #[9, 5] #[3] false, size := 1, bytes := 8, zero := Value.nilFunc } := by kernel_rfl
theorem ty133 : ty Tryz.prog 133 = some { desc := TypeDesc.tuple #[3, 4], size := 1, bytes := 0, zero := Value.tuple #[Value.int IntKind.i64 (0), Value.bool false] } := by kernel_rfl
theorem ty134 : ty Tryz.prog 134 = some { desc := TypeDesc.pointer 5, size := 1, bytes := 8, zero := Value.pointer none } := by kernel_rfl
theorem ty135 : ty Tryz.prog 135 = some { desc := TypeDesc.func #[27, 31, 5] #[31] false, size := 1, bytes := 8, zero := Value.nilFunc } := by kernel_rfl
theorem ty136 : ty Tryz.prog 136 = some { desc := TypeDesc.func #[9, 9] #[3] false, size := 1, bytes := 8, zero := Value.nilFunc } := by kernel_rfl
theorem ty137 : ty Tryz.prog 137 = some { desc := TypeDesc.func #[105] #[3] false, size := 1, bytes := 8, zero := Value.nilFunc } := by kernel_rfl
theorem ty138 : ty Tryz.prog 138 = some { desc := TypeDesc.func #[103] #[3] false, size := 1, bytes := 8, zero := Value.nilFunc } := by kernel_rfl
theorem ty139 : ty Tryz.prog 139 = some { desc := TypeDesc.func #[107, 107] #[107] false, size := 1, bytes := 8, zero := Value.nilFunc } := by kernel_rfl
theorem ty140 : ty Tryz.prog 140 = some { desc := TypeDesc.func #[42] #[107] false, size := 1, bytes := 8, zero := Value.nilFunc } := by kernel_rfl
theorem ty141 : ty Tryz.prog 141 = some { desc := TypeDesc.func #[42] #[42] false, size := 1, bytes := 8, zero := Value.nilFunc } := by kernel_rfl
theorem ty142 : ty Tryz.prog 142 = some { desc := TypeDesc.tuple #[42, 42, 33], size := 1, bytes := 0, zero := Value.tuple { toList := [Value.agg #[Value.bool false, Value.string { data := #[] }], Value.agg #[Value.bool false, Value.string { data := #[] }], Value.int IntKind.i64 (0)] } } := by kernel_rfl
theorem ty143 : ty Tryz.prog 143 = some { desc := TypeDesc.func #[42, 42] #[42, 42, 33] false, size := 1, bytes := 8, zero := Value.nilFunc } := by kernel_rfl
theorem ty144 : ty Tryz.prog 144 = some { desc := TypeDesc.func #[107] #[107] false, size := 1, bytes := 8, zero := Value.nilFunc } := by kernel_rfl
theorem ty145 : ty Tryz.prog 145 = some { desc := TypeDesc.func #[42] #[3] false, size := 1, bytes := 8, zero := Value.nilFunc } := by kernel_rfl
theorem ty146 : ty Tryz.prog 146 = some { desc := TypeDesc.func #[3] #[9] false, size := 1, bytes := 8, zero := Value.nilFunc } := by kernel_rfl
theorem ty147 : ty Tryz.prog 147 = some { desc := TypeDesc.func #[128, 128] #[3] false, size := 1, bytes := 8, zero := Value.nilFunc } := by kernel_rfl
theorem ty148 : ty Tryz.prog 148 = some { desc := TypeDesc.func #[149] #[147] false, size := 1, bytes := 8, zero := Value.nilFunc } := by kernel_rfl
theorem ty149 : ty Tryz.prog 149 = some { desc := TypeDesc.func #[128] #[31] false, size := 1, bytes := 8, zero := Value.nilFunc } := by kernel_rfl
theorem ty150 : ty Tryz.prog 150 = some { desc := TypeDesc.func #[22, 114] #[3] false, size := 1, bytes := 8, zero := Value.nilFunc } := by kernel_rfl
theorem ty151 : ty Tryz.prog 151 = some { desc := TypeDesc.slice 31, size := 1, bytes := 24, zero := Value.slice none 0 0 } := by kernel_rfl
theorem ty152 : ty Tryz.prog 152 = some { desc := TypeDesc.tuple #[151, 33], size := 1, bytes := 0, zero := Value.tuple #[Value.slice none 0 0, Value.int IntKind.i64 (0)] } := by kernel_rfl
theorem ty153 : ty Tryz.prog 153 = some { desc := TypeDesc.func #[27] #[151, 33] false, size := 1, bytes := 8, zero := Value.nilFunc } := by kernel_rfl
theorem ty154 : ty Tryz.prog 154 = some { desc := TypeDesc.func #[27, 3] #[33] false, size := 1, bytes := 8, zero := Value.nilFunc } := by kernel_rfl
theorem ty155 : ty Tryz.prog 155 = some { desc := TypeDesc.map 9 31, size := 1, bytes := 8, zero := Value.map none } := by kernel_rfl
theorem ty156 : ty Tryz.prog 156 = some { desc := TypeDesc.tuple #[155, 4], size := 1, bytes := 0, zero := Value.tuple #[Value.map none, Value.bool false] } := by kernel_rfl
theorem ty157 : ty Tryz.prog 157 = some { desc := TypeDesc.func #[27, 31, 3] #[155, 4] false, size := 1, bytes := 8, zero := Value.nilFunc } := by kernel_rfl
theorem ty158 : ty Tryz.prog 158 = some { desc := TypeDesc.func #[125] #[22] false, size := 1, bytes := 8, zero := Value.nilFunc } := by kernel_rfl
theorem ty159 : ty Tryz.prog 159 = some { desc := TypeDesc.func #[155] #[125] false, size := 1, bytes := 8, zero := Value.nilFunc } := by kernel_rfl
theorem ty160 : ty Tryz.prog 160 = some { desc := TypeDesc.func #[9, 3] #[9] false, size := 1, bytes := 8, zero := Value.nilFunc } := by kernel_rfl
theorem ty161 : ty Tryz.prog 161 = some { desc := TypeDesc.slice 192, size := 1, bytes := 24, zero := Value.slice none 0 0 } := by kernel_rfl
theorem ty162 : ty Tryz.prog 162 = some { desc := TypeDesc.tuple #[161, 33], size := 1, bytes := 0, zero := Value.tuple #[Value.slice none 0 0, Value.int IntKind.i64 (0)] } := by kernel_rfl
theorem ty163 : ty Tryz.prog 163 = some { desc := TypeDesc.func #[27, 31, 3] #[161, 33] false, size := 1, bytes := 8, zero := Value.nilFunc } := by kernel_rfl
theorem ty164 : ty Tryz.prog 164 = some { desc := TypeDesc.func #[161] #[22] false, size := 1, bytes := 8, zero := Value.nilFunc } := by kernel_rfl
theorem ty165 : ty Tryz.prog 165 = some { desc := TypeDesc.func #[31, 130] #[3] false, size := 1, bytes := 8, zero := Value.nilFunc } := by kernel_rfl
theorem ty167 : ty Tryz.prog 167 = some { desc := TypeDesc.func #[166] #[166] false, size := 1, bytes := 8, zero := Value.nilFunc } := by kernel_rfl
theorem ty168 : ty Tryz.prog 168 = some { desc := TypeDesc.func #[27, 31] #[33] false, size := 1, bytes := 8, zero := Value.nilFunc } := by kernel_rfl
theorem ty169 : ty Tryz.prog 169 = some { desc := TypeDesc.func #[194] #[] false, size := 1, bytes := 8, zero := Value.nilFunc } := by kernel_rfl
theorem ty170 : ty Tryz.prog 170 = some { desc := TypeDesc.func #[194] #[] false, size := 1, bytes := 8, zero := Value.nilFunc } := by kernel_rfl
theorem ty171 : ty Tryz.prog 171 = some { desc := TypeDesc.func #[27, 3] #[170] false, size := 1, bytes := 8, zero := Value.nilFunc } := by kernel_rfl
theorem ty172 : ty Tryz.prog 172 = some { desc := TypeDesc.func #[31] #[] false, size := 1, bytes := 8, zero := Value.nilFunc } := by kernel_rfl
theorem ty173 : ty Tryz.prog 173 = some { desc := TypeDesc.func #[31] #[31] false, size := 1, bytes := 8, zero := Value.nilFunc } := by kernel_rfl
theorem ty174 : ty Tryz.prog 174 = some { desc := TypeDesc.map 9 4, size := 1, bytes := 8, zero := Value.map none } := by kernel_rfl
theorem ty175 : ty Tryz.prog 175 = some { desc := TypeDesc.func #[197] #[] false, size := 1, bytes := 8, zero := Value.nilFunc } := by kernel_rfl
theorem ty176 : ty Tryz.prog 176 = some { desc := TypeDesc.func #[197] #[] false, size := 1, bytes := 8, zero := Value.nilFunc } := by kernel_rfl
theorem ty177 : ty Tryz.prog 177 = some { desc := TypeDesc.func #[107, 107] #[176] false, size := 1, bytes := 8, zero := Value.nilFunc } := by kernel_rfl
theorem ty178 : ty Tryz.prog 178 = some { desc := TypeDesc.tuple #[107, 107], size := 1, bytes := 0, zero := Value.tuple #[Value.slice none 0 0, Value.slice none 0 0] } := by kernel_rfl
theorem ty179 : ty Tryz.prog 179 = some { desc := TypeDesc.func #[107, 107] #[107, 107] false, size := 1, bytes := 8, zero := Value.nilFunc } := by kernel_rfl
theorem ty180 : ty Tryz.prog 180 = some { desc := TypeDesc.array 8 5, size := 8, bytes := 8, zero := Value.agg { toList := [Value.int IntKind.u8 (0), Value.int IntKind.u8 (0), Value.int IntKind.u8 (0), Value.int IntKind.u8 (0), Value.int IntKind.u8 (0), Value.int IntKind.u8 (0), Value.int IntKind.u8 (0), Value.int IntKind.u8 (0)] } } := by kernel_rfl
theorem ty181 : ty Tryz.prog 181 = some { desc := TypeDesc.func #[31, 31] #[3] false, size := 1, bytes := 8, zero := Value.nilFunc } := by kernel_rfl
theorem ty182 : ty Tryz.prog 182 = some { desc := TypeDesc.func #[27, 55] #[151, 33] false, size := 1, bytes := 8, zero := Value.nilFunc } := by kernel_rfl
theorem ty183 : ty Tryz.prog 183 = some { desc := TypeDesc.func #[22] #[] false, size := 1, bytes := 8, zero := Value.nilFunc } := by kernel_rfl
theorem ty184 : ty Tryz.prog 184 = some { desc := TypeDesc.tuple #[97, 97], size := 1, bytes := 0, zero := Value.tuple #[Value.int IntKind.u64 (0), Value.int IntKind.u64 (0)] } := by kernel_rfl
theorem ty185 : ty Tryz.prog 185 = some { desc := TypeDesc.func #[97, 97] #[97, 97] false, size := 1, bytes := 8, zero := Value.nilFunc } := by kernel_rfl
theorem ty186 : ty Tryz.prog 186 = some { desc := TypeDesc.func #[3] #[] false, size := 1, bytes := 8, zero := Value.nilFunc } := by kernel_rfl
theorem ty187 : ty Tryz.prog 187 = some { desc := TypeDesc.func #[] #[3] false, size := 1, bytes := 8, zero := Value.nilFunc } := by kernel_rfl
theorem ty188 : ty Tryz.prog 188 = some { desc := TypeDesc.slice 189, size := 1, bytes := 24, zero := Value.slice none 0 0 } := by kernel_rfl
theorem ty189 : ty Tryz.prog 189 = some { desc := TypeDesc.slice 4, size := 1, bytes := 24, zero := Value.slice none 0 0 } := by kernel_rfl
theorem ty190 : ty Tryz.prog 190 = some { desc := TypeDesc.func #[27, 3] #[189] false, size := 1, bytes := 8, zero := Value.nilFunc } := by kernel_rfl
theorem ty191 : ty Tryz.prog 191 = some { desc := TypeDesc.struct { toList := [{ name := "Word", type := 9, offset := 0, embedded := false, tag := "", pkgPath := "", byteOffset := 0 }, { name := "Ends", type := 31, offset := 1, embedded := false, tag := "", pkgPath := "", byteOffset := 16 }] }, size := 2, bytes := 40, zero := Value.agg #[Value.string { data := #[] }, Value.slice none 0 0] } := by kernel_rfl
theorem ty192 : ty Tryz.prog 192 = some { desc := TypeDesc.struct { toList := [{ name := "Word", type := 9, offset := 0, embedded := false, tag := "", pkgPath := "", byteOffset := 0 }, { name := "Ends", type := 31, offset := 1, embedded := false, tag := "", pkgPath := "", byteOffset := 16 }] }, size := 2, bytes := 40, zero := Value.agg #[Value.string { data := #[] }, Value.slice none 0 0] } := by kernel_rfl
theorem ty193 : ty Tryz.prog 193 = some { desc := TypeDesc.func #[27, 161] #[161] false, size := 1, bytes := 8, zero := Value.nilFunc } := by kernel_rfl
theorem ty194 : ty Tryz.prog 194 = some { desc := TypeDesc.func #[3, 128] #[4] false, size := 1, bytes := 8, zero := Value.nilFunc } := by kernel_rfl
theorem ty195 : ty Tryz.prog 195 = some { desc := TypeDesc.func #[31, 3, 3, 3] #[] false, size := 1, bytes := 8, zero := Value.nilFunc } := by kernel_rfl
theorem ty196 : ty Tryz.prog 196 = some { desc := TypeDesc.func #[107, 107] #[3] false, size := 1, bytes := 8, zero := Value.nilFunc } := by kernel_rfl
theorem ty197 : ty Tryz.prog 197 = some { desc := TypeDesc.func #[107, 107] #[4] false, size := 1, bytes := 8, zero := Value.nilFunc } := by kernel_rfl
theorem ty198 : ty Tryz.prog 198 = some { desc := TypeDesc.tuple #[107, 105], size := 1, bytes := 0, zero := Value.tuple #[Value.slice none 0 0, Value.int IntKind.u32 (0)] } := by kernel_rfl
theorem ty199 : ty Tryz.prog 199 = some { desc := TypeDesc.func #[107, 105] #[107, 105] false, size := 1, bytes := 8, zero := Value.nilFunc } := by kernel_rfl
theorem ty200 : ty Tryz.prog 200 = some { desc := TypeDesc.func #[107, 3] #[107] false, size := 1, bytes := 8, zero := Value.nilFunc } := by kernel_rfl
theorem ty201 : ty Tryz.prog 201 = some { desc := TypeDesc.func #[27, 31, 3] #[31] false, size := 1, bytes := 8, zero := Value.nilFunc } := by kernel_rfl
theorem ty202 : ty Tryz.prog 202 = some { desc := TypeDesc.func #[5] #[3] false, size := 1, bytes := 8, zero := Value.nilFunc } := by kernel_rfl
theorem ty203 : ty Tryz.prog 203 = some { desc := TypeDesc.func #[9] #[9] false, size := 1, bytes := 8, zero := Value.nilFunc } := by kernel_rfl
theorem ty204 : ty Tryz.prog 204 = some { desc := TypeDesc.tuple #[9, 9], size := 1, bytes := 0, zero := Value.tuple #[Value.string { data := #[] }, Value.string { data := #[] }] } := by kernel_rfl
theorem ty205 : ty Tryz.prog 205 = some { desc := TypeDesc.func #[9, 9] #[9, 9] false, size := 1, bytes := 8, zero := Value.nilFunc } := by kernel_rfl
theorem ty206 : ty Tryz.prog 206 = some { desc := TypeDesc.func #[3, 3] #[3] false, size := 1, bytes := 8, zero := Value.nilFunc } := by kernel_rfl
theorem ty207 : ty Tryz.prog 207 = some { desc := TypeDesc.func #[55] #[] false, size := 1, bytes := 8, zero := Value.nilFunc } := by kernel_rfl
theorem ty208 : ty Tryz.prog 208 = some { desc := TypeDesc.func #[55] #[] false, size := 1, bytes := 8, zero := Value.nilFunc } := by kernel_rfl
theorem ty209 : ty Tryz.prog 209 = some { desc := TypeDesc.func #[27] #[208] false, size := 1, bytes := 8, zero := Value.nilFunc } := by kernel_rfl
theorem ty210 : ty Tryz.prog 210 = some { desc := TypeDesc.func #[22, 125] #[22] false, size := 1, bytes := 8, zero := Value.nilFunc } := by kernel_rfl
theorem ty211 : ty Tryz.prog 211 = some { desc := TypeDesc.func #[22, 3, 3, 3] #[] false, size := 1, bytes := 8, zero := Value.nilFunc } := by kernel_rfl
theorem ty212 : ty Tryz.prog 212 = some { desc := TypeDesc.tuple #[105, 105], size := 1, bytes := 0, zero := Value.tuple #[Value.int IntKind.u32 (0), Value.int IntKind.u32 (0)] } := by kernel_rfl
theorem ty213 : ty Tryz.prog 213 = some { desc := TypeDesc.func #[105, 105] #[105, 105] false, size := 1, bytes := 8, zero := Value.nilFunc } := by kernel_rfl
theorem ty214 : ty Tryz.prog 214 = some { desc := TypeDesc.tuple #[103, 103], size := 1, bytes := 0, zero := Value.tuple #[Value.int IntKind.u64 (0), Value.int IntKind.u64 (0)] } := by kernel_rfl
theorem ty215 : ty Tryz.prog 215 = some { desc := TypeDesc.func #[103, 103] #[103, 103] false, size := 1, bytes := 8, zero := Value.nilFunc } := by kernel_rfl
theorem ty216 : ty Tryz.prog 216 = some { desc := TypeDesc.func #[31, 3, 3] #[] false, size := 1, bytes := 8, zero := Value.nilFunc } := by kernel_rfl
theorem ty217 : ty Tryz.prog 217 = some { desc := TypeDesc.int IntKind.i64, size := 1, bytes := 8, zero := Value.int IntKind.i64 (0) } := by kernel_rfl
theorem ty218 : ty Tryz.prog 218 = some { desc := TypeDesc.tuple #[3, 217], size := 1, bytes := 0, zero := Value.tuple #[Value.int IntKind.i64 (0), Value.int IntKind.i64 (0)] } := by kernel_rfl
theorem ty219 : ty Tryz.prog 219 = some { desc := TypeDesc.func #[31, 3, 3] #[3, 217] false, size := 1, bytes := 8, zero := Value.nilFunc } := by kernel_rfl
theorem ty220 : ty Tryz.prog 220 = some { desc := TypeDesc.func #[31, 3, 3] #[4] false, size := 1, bytes := 8, zero := Value.nilFunc } := by kernel_rfl
theorem ty221 : ty Tryz.prog 221 = some { desc := TypeDesc.func #[31, 3, 3, 3] #[3] false, size := 1, bytes := 8, zero := Value.nilFunc } := by kernel_rfl
theorem ty222 : ty Tryz.prog 222 = some { desc := TypeDesc.func #[31, 3, 3, 3] #[3, 4] false, size := 1, bytes := 8, zero := Value.nilFunc } := by kernel_rfl
theorem ty223 : ty Tryz.prog 223 = some { desc := TypeDesc.func #[3] #[3] false, size := 1, bytes := 8, zero := Value.nilFunc } := by kernel_rfl
theorem ty224 : ty Tryz.prog 224 = some { desc := TypeDesc.array 8 9, size := 8, bytes := 128, zero := Value.agg { toList := [Value.string { data := #[] }, Value.string { data := #[] }, Value.string { data := #[] }, Value.string { data := #[] }, Value.string { data := #[] }, Value.string { data := #[] }, Value.string { data := #[] }, Value.string { data := #[] }] } } := by kernel_rfl
theorem ty225 : ty Tryz.prog 225 = some { desc := TypeDesc.func #[9, 9] #[9] false, size := 1, bytes := 8, zero := Value.nilFunc } := by kernel_rfl
theorem ty226 : ty Tryz.prog 226 = some { desc := TypeDesc.func #[22, 3, 3] #[] false, size := 1, bytes := 8, zero := Value.nilFunc } := by kernel_rfl
theorem ty227 : ty Tryz.prog 227 = some { desc := TypeDesc.func #[22, 3, 3] #[3, 217] false, size := 1, bytes := 8, zero := Value.nilFunc } := by kernel_rfl
theorem ty228 : ty Tryz.prog 228 = some { desc := TypeDesc.func #[22, 3, 3] #[4] false, size := 1, bytes := 8, zero := Value.nilFunc } := by kernel_rfl
theorem ty229 : ty Tryz.prog 229 = some { desc := TypeDesc.func #[22, 3, 3, 3] #[3] false, size := 1, bytes := 8, zero := Value.nilFunc } := by kernel_rfl
theorem ty230 : ty Tryz.prog 230 = some { desc := TypeDesc.func #[22, 3, 3, 3] #[3, 4] false, size := 1, bytes := 8, zero := Value.nilFunc } := by kernel_rfl
theorem ty231 : ty Tryz.prog 231 = some { desc := TypeDesc.func #[3] #[28] false, size := 1, bytes := 8, zero := Value.nilFunc } := by kernel_rfl
theorem ty232 : ty Tryz.prog 232 = some { desc := TypeDesc.int IntKind.u64, size := 1, bytes := 8, zero := Value.int IntKind.u64 (0) } := by kernel_rfl
theorem ty233 : ty Tryz.prog 233 = some { desc := TypeDesc.func #[3] #[97] false, size := 1, bytes := 8, zero := Value.nilFunc } := by kernel_rfl
theorem ty234 : ty Tryz.prog 234 = some { desc := TypeDesc.func #[] #[103] false, size := 1, bytes := 8, zero := Value.nilFunc } := by kernel_rfl
theorem ty235 : ty Tryz.prog 235 = some { desc := TypeDesc.func #[31, 3, 236] #[3] false, size := 1, bytes := 8, zero := Value.nilFunc } := by kernel_rfl
theorem ty236 : ty Tryz.prog 236 = some { desc := TypeDesc.pointer 3, size := 1, bytes := 8, zero := Value.pointer none } := by kernel_rfl
theorem ty237 : ty Tryz.prog 237 = some { desc := TypeDesc.func #[31, 3, 3, 3, 236] #[3] false, size := 1, bytes := 8, zero := Value.nilFunc } := by kernel_rfl
theorem ty238 : ty Tryz.prog 238 = some { desc := TypeDesc.func #[9] #[105, 105] false, size := 1, bytes := 8, zero := Value.nilFunc } := by kernel_rfl
theorem ty239 : ty Tryz.prog 239 = some { desc := TypeDesc.func #[22, 3, 236] #[3] false, size := 1, bytes := 8, zero := Value.nilFunc } := by kernel_rfl
theorem ty240 : ty Tryz.prog 240 = some { desc := TypeDesc.func #[22, 3, 3, 3, 236] #[3] false, size := 1, bytes := 8, zero := Value.nilFunc } := by kernel_rfl
theorem ty241 : ty Tryz.prog 241 = some { desc := TypeDesc.pointer 232, size := 1, bytes := 8, zero := Value.pointer none } := by kernel_rfl
theorem ty242 : ty Tryz.prog 242 = some { desc := TypeDesc.tuple #[3, 3], size := 1, bytes := 0, zero := Value.tuple #[Value.int IntKind.i64 (0), Value.int IntKind.i64 (0)] } := by kernel_rfl
theorem ty243 : ty Tryz.prog 243 = some { desc := TypeDesc.func #[31, 3, 3, 236] #[3, 3] false, size := 1, bytes := 8, zero := Value.nilFunc } := by kernel_rfl
theorem ty244 : ty Tryz.prog 244 = some { desc := TypeDesc.func #[22, 3, 3, 236] #[3, 3] false, size := 1, bytes := 8, zero := Value.nilFunc } := by kernel_rfl
theorem ty247 : ty Tryz.prog 247 = some { desc := TypeDesc.array 0 16, size := 0, bytes := 0, zero := Value.agg #[] } := by kernel_rfl
theorem ty248 : ty Tryz.prog 248 = some { desc := TypeDesc.struct { toList := [{ name := "_", type := 247, offset := 0, embedded := false, tag := "", pkgPath := "runtime", byteOffset := 0 }] }, size := 0, bytes := 0, zero := Value.agg #[] } := by kernel_rfl
theorem ty249 : ty Tryz.prog 249 = some { desc := TypeDesc.struct { toList := [{ name := "_", type := 247, offset := 0, embedded := false, tag := "", pkgPath := "runtime", byteOffset := 0 }] }, size := 0, bytes := 0, zero := Value.agg #[] } := by kernel_rfl
theorem ty250 : ty Tryz.prog 250 = some { desc := TypeDesc.int IntKind.u8, size := 1, bytes := 1, zero := Value.int IntKind.u8 (0) } := by kernel_rfl
theorem ty251 : ty Tryz.prog 251 = some { desc := TypeDesc.int IntKind.u8, size := 1, bytes := 1, zero := Value.int IntKind.u8 (0) } := by kernel_rfl
theorem ty252 : ty Tryz.prog 252 = some { desc := TypeDesc.func #[166, 166] #[4] false, size := 1, bytes := 8, zero := Value.nilFunc } := by kernel_rfl
theorem ty253 : ty Tryz.prog 253 = some { desc := TypeDesc.int IntKind.i32, size := 1, bytes := 4, zero := Value.int IntKind.i32 (0) } := by kernel_rfl
theorem ty254 : ty Tryz.prog 254 = some { desc := TypeDesc.int IntKind.i32, size := 1, bytes := 4, zero := Value.int IntKind.i32 (0) } := by kernel_rfl
attribute [go_sem] ty0 ty1 ty2 ty3 ty4 ty5 ty6 ty9 ty10 ty11 ty12 ty13 ty14 ty15 ty16 ty17 ty18 ty19 ty20 ty21 ty22 ty23 ty24 ty25 ty26 ty27 ty28 ty29 ty30 ty31 ty32 ty33 ty34 ty35 ty36 ty37 ty38 ty39 ty40 ty41 ty42 ty43 ty44 ty45 ty46 ty47 ty48 ty49 ty50 ty51 ty52 ty53 ty54 ty55 ty56 ty57 ty58 ty59 ty60 ty61 ty62 ty63 ty64 ty65 ty66 ty67 ty68 ty69 ty70 ty71 ty72 ty73 ty74 ty75 ty76 ty77 ty78 ty79 ty80 ty81 ty82 ty83 ty84 ty85 ty86 ty87 ty88 ty89 ty90 ty91 ty92 ty93 ty94 ty95 ty96 ty97 ty98 ty99 ty100 ty101 ty102 ty103 ty104 ty105 ty106 ty107 ty108 ty109 ty110 ty111 ty112 ty113 ty114 ty115 ty116 ty117 ty118 ty119 ty120 ty121 ty122 ty123 ty124 ty125 ty126 ty127 ty128 ty129 ty130 ty131 ty132 ty133 ty134 ty135 ty136 ty137 ty138 ty139 ty140 ty141 ty142 ty143 ty144 ty145 ty146 ty147 ty148 ty149 ty150 ty151 ty152 ty153 ty154 ty155 ty156 ty157 ty158 ty159 ty160 ty161 ty162 ty163 ty164 ty165 ty167 ty168 ty169 ty170 ty171 ty172 ty173 ty174 ty175 ty176 ty177 ty178 ty179 ty180 ty181 ty182 ty183 ty184 ty185 ty186 ty187 ty188 ty189 ty190 ty191 ty192 ty193 ty194 ty195 ty196 ty197 ty198 ty199 ty200 ty201 ty202 ty203 ty204 ty205 ty206 ty207 ty208 ty209 ty210 ty211 ty212 ty213 ty214 ty215 ty216 ty217 ty218 ty219 ty220 ty221 ty222 ty223 ty224 ty225 ty226 ty227 ty228 ty229 ty230 ty231 ty232 ty233 ty234 ty235 ty236 ty237 ty238 ty239 ty240 ty241 ty242 ty243 ty244 ty247 ty248 ty249 ty250 ty251 ty252 ty253 ty254
theorem follows : Tryz.prog.follows .mixedOrders = true := by kernel_rfl
end Go.AW

namespace Go.AW
open Go Go.Proofs
theorem fo24_0 : fieldOf Tryz.prog 24 0 = some (0, { desc := TypeDesc.slice 9, size := 1, bytes := 24, zero := Value.slice none 0 0 }) := by kernel_rfl
theorem fo24_1 : fieldOf Tryz.prog 24 1 = some (1, { desc := TypeDesc.slice 9, size := 1, bytes := 24, zero := Value.slice none 0 0 }) := by kernel_rfl
theorem fo27_0 : fieldOf Tryz.prog 27 0 = some (0, { desc := TypeDesc.int IntKind.i64, size := 1, bytes := 8, zero := Value.int IntKind.i64 (0) }) := by kernel_rfl
theorem fo27_1 : fieldOf Tryz.prog 27 1 = some (1, { desc := TypeDesc.int IntKind.i64, size := 1, bytes := 8, zero := Value.int IntKind.i64 (0) }) := by kernel_rfl
theorem fo27_2 : fieldOf Tryz.prog 27 2 = some (2, { desc := TypeDesc.slice 128, size := 1, bytes := 24, zero := Value.slice none 0 0 }) := by kernel_rfl
theorem fo80_1 : fieldOf Tryz.prog 80 1 = some (1, { desc := TypeDesc.slice 5, size := 1, bytes := 24, zero := Value.slice none 0 0 }) := by kernel_rfl
theorem fo128_0 : fieldOf Tryz.prog 128 0 = some (0, { desc := TypeDesc.int IntKind.i64, size := 1, bytes := 8, zero := Value.int IntKind.i64 (0) }) := by kernel_rfl
theorem fo128_1 : fieldOf Tryz.prog 128 1 = some (1, { desc := TypeDesc.int IntKind.i64, size := 1, bytes := 8, zero := Value.int IntKind.i64 (0) }) := by kernel_rfl
theorem fo128_2 : fieldOf Tryz.prog 128 2 = some (2, { desc := TypeDesc.int IntKind.i64, size := 1, bytes := 8, zero := Value.int IntKind.i64 (0) }) := by kernel_rfl
theorem es22 : elemSize Tryz.prog 22 = some 1 := by kernel_rfl
theorem es25 : elemSize Tryz.prog 25 = some 3 := by kernel_rfl
theorem es28 : elemSize Tryz.prog 28 = some 1 := by kernel_rfl
theorem es31 : elemSize Tryz.prog 31 = some 1 := by kernel_rfl
theorem es107 : elemSize Tryz.prog 107 = some 1 := by kernel_rfl
theorem hk44 (x0 : Bool) (x1 : List UInt8) (x2 : Bool) (x3 : List UInt8) : hkey Tryz.prog 5 44 [HV.bool x0, HV.str x1, HV.bool x2, HV.str x3] = some [Lit.bool x0, Lit.string x1, Lit.bool x2, Lit.string x3] := by kernel_rfl
theorem hc44 : Tryz.prog.eqGuardType Tryz.prog.depth 44 = false ∧ Tryz.prog.keyTypeAt 5 44 = true ∧ structT Tryz.prog 44 = true := ⟨by kernel_rfl, by kernel_rfl, by kernel_rfl⟩
theorem hq44 (x y : (Bool × List UInt8) × (Bool × List UInt8)) : x = y ↔ [Lit.bool x.1.1, Lit.string x.1.2, Lit.bool x.2.1, Lit.string x.2.2] = [Lit.bool y.1.1, Lit.string y.1.2, Lit.bool y.2.1, Lit.string y.2.2] := by simp [Prod.ext_iff, and_assoc]
end Go.AW

/- Lockstep walks: ranges over functions. -/
namespace Go.AW
open Go

def forL {S α X : Type} (body : S → α → Option (Stp S X)) : List α → S → Option (Ou S X)
  | [], s => some (.go s)
  | x :: l, s => match body s x with
    | some (.next s') => forL body l s'
    | some (.exit y) => some (.ret y)
    | none => none

def Yields (P : Program) (f : FuncId) (fs cs : List HV) (ys : List (List HV)) : Prop :=
  ∀ (id ver : Nat) (H : Heap) (J : Nat → Heap → Prop) (Stop : Heap → Prop) (K : HV → Heap → Prop), (∀ i H H', J i H → (∀ j x, hget H j = some x → hget H' j = some x) → J i H') → J 0 H →
    (∀ i y H, ys[i]? = some y → J i H → YCall P id ver y H fun r H' => ∃ b, r = .bool b ∧ (b = true → J (i + 1) H') ∧ (b = false → Stop H')) →
    (∀ H, J ys.length H → K (.tup []) H) → (∀ H, Stop H → K (.tup []) H) → ACall P f (fs ++ [.yl id ver] ++ cs) H K

theorem YCall.of {P : Program} {id ver fn n : Nat} {snap : List (Nat × HV)} {ps : Array Tmp} {assign body : Code} {hs : List HV} {H : Heap} {K : HV → Heap → Prop} (hg : hget H id = some (ver, .loop .ready none fn n snap ps assign body)) (hl : ps.size = hs.length) (hp : ∀ p ∈ ps.toList, p < n)
    (h : ∀ l, AW P (some l) n assign (fun e s1 => e = .normal ∧ hget s1.heap id = some (ver, .loop .ready none fn n snap ps assign body) ∧
      AW P (some l) n body (rndQ id ver fn n snap ps assign body K) { s1 with heap := hset s1.heap id ver (.loop .busy none fn n snap ps assign body) }) { slots := setPs snap ps.toList hs, heap := H }) : YCall P id ver hs H K :=
  ⟨fn, n, snap, ps, assign, body, hg, hl, hp, h⟩

section
variable {P : Program} {N : Nat} {Q : Exit → AS → Prop} {s : AS}

def rdQ (G J : AS → Prop) (c : Code) : Exit → AS → Prop
  | .normal, s => G s
  | .ret, s => c = .ret ∧ J s
  | .exit i, s => c = .exit i ∧ J s
  | _, _ => False

theorem hget_le {H H' : Heap} (h : ∀ i x, hget H' i = some x → hget H i = some x) {id ver : Nat} {o : AObj} (hn : hget H' id = none) : ∀ i x, hget H' i = some x → hget (hset H id ver o) i = some x := fun i x hx => by
  rw [hget_hset, if_neg (fun e => by rw [e, hn] at hx; cases hx)]
  exact h i x hx

theorem AW.rangeY {S α X R V W : Type} {g : Operand} {ps : Array Tmp} {assign body c : Code} {f : FuncId} {fs cs : List HV} {mb : S → α → Option (Stp S X)} {L : List α} {M : S → Option R} {Mx : X → Option R} {s0 : S} {r : R} {sl : List (Nat × HV)}
    (id : Nat) (ye : α → List HV) (h : lpO (forL mb L s0) M Mx = some r) (up : Up (Q .normal)) (hg : (⟨sl, []⟩ : AS).ev g = some (.fn (.func f) fs cs)) (hy : Yields P f fs cs (L.map ye))
    (St : S → V → Heap) (v0 : V) (Sx : X → W → Heap) (hno : ∀ a v, hget (St a v) id = none) (hnox : ∀ a v, hget (Sx a v) id = none) (hps : (ps.toList.all fun p => Nat.blt p N) = true) (hpl : ∀ x, ps.size = (ye x).length)
    (kdone : ∀ a v, M a = some r → Q .normal ⟨sl, St a v⟩) (kout : ∀ x w, Mx x = some r → AW P none N c Q ⟨sl, Sx x w⟩)
    (round : ∀ (Lo : LoopState → Option Code → AObj) (l ver : Nat) (a : S) (x : α) (v : V) (st : Stp S X), mb a x = some st →
      AW P (some l) N assign (fun e s1 => e = .normal ∧ hget s1.heap id = some (ver, Lo .ready none) ∧
        AW P (some l) N body (rdQ (fun s' => ∃ a' v', some (Stp.next a') = some st ∧ s'.le ⟨[], (id, ver, Lo .busy none) :: St a' v'⟩) (fun s' => ∃ x' w, some (Stp.exit x') = some st ∧ s'.le ⟨[], (id, ver, Lo .busy none) :: Sx x' w⟩) c)
          { s1 with heap := hset s1.heap id ver (Lo .busy none) }) ⟨setPs sl ps.toList (ye x), (id, ver, Lo .ready none) :: St a v⟩) :
    AW P none N (.rangeFunc g ps assign body) Q ⟨sl, St s0 v0⟩ := by
  have hg' : (⟨sl, St s0 v0⟩ : AS).ev g = some (.fn (.func f) fs cs) := by
    cases g <;> exact hg
  refine AW.rangeFunc id hg' fun fn ver => ?_
  obtain ⟨Lo, hLo⟩ : ∃ Lo : LoopState → Option Code → AObj, ∀ st p, Lo st p = .loop st p fn N sl ps assign body := ⟨_, fun _ _ => rfl⟩
  -- what the model comes to from a state on
  let J : Nat → Heap → Prop := fun i H => ∃ a v, lpO (forL mb (L.drop i) a) M Mx = some r ∧ hget H id = some (ver, Lo .ready none) ∧ ∀ j x, hget (St a v) j = some x → hget H j = some x
  let Stop : Heap → Prop := fun H => ∃ x w, Mx x = some r ∧ (hget H id = some (ver, Lo .done (some c))) ∧ ∀ j y, hget (Sx x w) j = some y → hget H j = some y
  refine hy id ver _ J Stop _ (fun i H H' ⟨a, v, h1, h2, h3⟩ hl => ⟨a, v, h1, hl _ _ h2, fun j x hx => hl _ _ (h3 j x hx)⟩) ⟨s0, v0, by rw [List.drop_zero]; exact h, by rw [hget_hset, if_pos rfl, hLo], fun j x hx => ?_⟩ ?_ ?_ ?_
  · exact hget_le (fun _ _ h => h) (hno s0 v0) j x hx
  · rintro i y H hyi ⟨a, v, hm, hlo, hle⟩
    rw [List.getElem?_map] at hyi
    cases hLi : L[i]? with
    | none => rw [hLi] at hyi; cases hyi
    | some x =>
      rw [hLi] at hyi
      cases hyi
      have hi := (List.getElem?_eq_some_iff.1 hLi).1
      have hx : L.drop i = x :: L.drop (i + 1) := by
        rw [List.drop_eq_getElem_cons hi]
        congr 1
        exact (List.getElem?_eq_some_iff.1 hLi).2
      rw [hx] at hm
      simp only [forL] at hm
      have hmb : ∃ st, mb a x = some st := by
        cases hb : mb a x with
        | none => rw [hb] at hm; cases hm
        | some st => exact ⟨st, rfl⟩
      obtain ⟨st, hst⟩ := hmb
      rw [hst] at hm
      rw [hLo] at hlo
      refine YCall.of hlo (hpl x) (fun p hp => by
        have := List.all_eq_true.1 hps p hp
        exact (Nat.blt_eq ▸ this : _)) fun l => ?_
      have hr := round Lo l ver a x v st hst
      refine AW.weaken ?_ (s' := ⟨setPs sl ps.toList (ye x), (id, ver, Lo .ready none) :: St a v⟩) ⟨fun _ _ h => h, fun j z hz => ?_⟩
      · refine hr.mono ?_
        rintro e s1 ⟨he, h1, h2⟩
        rw [hLo] at h1
        refine ⟨he, h1, ?_⟩
        rw [hLo] at h2
        refine h2.mono ?_
        rintro e s' h
        cases e with
        | normal =>
          obtain ⟨a', v', he', hl⟩ := h
          cases he'
          refine ⟨(hl.2 id _ (by simp only [hget, if_true])), true, rfl, fun _ => ⟨a', v', hm, (by rw [hget_hset, if_pos rfl, hLo]), ?_⟩, fun e => (by cases e)⟩
          refine hget_le (fun j z hz => hl.2 j z ?_) (hno a' v')
          simp only [hget]
          rw [if_neg (fun e => by rw [e, hno] at hz; cases hz)]
          exact hz
        | ret =>
          obtain ⟨hc, x', w, he', hl⟩ := h
          cases he'
          refine ⟨(hl.2 id _ (by simp only [hget, if_true])), false, rfl, fun e => (by cases e), fun _ => ⟨x', w, hm, (by rw [hget_hset, if_pos rfl, hLo, hc]), ?_⟩⟩
          refine hget_le (fun j z hz => hl.2 j z ?_) (hnox x' w)
          simp only [hget]
          rw [if_neg (fun e => by rw [e, hnox] at hz; cases hz)]
          exact hz
        | exit i' =>
          obtain ⟨hc, x', w, he', hl⟩ := h
          cases he'
          refine ⟨(hl.2 id _ (by simp only [hget, if_true])), false, rfl, fun e => (by cases e), fun _ => ⟨x', w, hm, (by rw [hget_hset, if_pos rfl, hLo, hc]), ?_⟩⟩
          refine hget_le (fun j z hz => hl.2 j z ?_) (hnox x' w)
          simp only [hget]
          rw [if_neg (fun e => by rw [e, hnox] at hz; cases hz)]
          exact hz
        | goto l => exact h.elim
        | panic ch => exact h.elim
        | outgrown => exact h.elim
      · simp only [hget] at hz
        split at hz
        · rename_i e
          subst e
          cases hz
          rw [hLo]; exact hlo
        · exact hle j z hz
  · rintro H ⟨a, v, hm, hlo, hle⟩
    rw [List.length_map, List.drop_length] at hm
    refine ⟨.ready, none, by rw [← hLo]; exact hlo, by simp, ?_⟩
    refine up _ (to_le (s' := ⟨sl, St a v⟩) ⟨fun _ _ h => h, ?_⟩ (kdone a v hm))
    exact hget_le hle (hno a v)
  · rintro H ⟨x, w, hm, hlo, hle⟩
    refine ⟨.done, some c, by rw [← hLo]; exact hlo, by simp, ?_⟩
    refine AW.weaken (kout x w hm) ⟨fun _ _ h => h, ?_⟩
    exact hget_le hle (hnox x w)
end
end Go.AW
namespace Go.AW
open Go

theorem ACall.freeze {P : Program} {f : FuncId} {args : List HV} {H : Heap} {K : HV → Heap → Prop} (n : Nat) (D H' : Heap)
    (h : ACall P f args H fun r H1 => (∀ j x, hget H' j = some x → hget H1 j = some x) ∧ (∀ j x, hget D j = some x → hget H1 j = some x ∧ hget H' j = none) ∧ K (frz n D r) H') : ACall P f args H K := by
  refine ⟨h.1, fun μ w vs hs hr => (h.2 μ w vs hs hr).mono ?_⟩
  rintro e w' ⟨v, r, H1, μ', rfl, ⟨h1, h2, k⟩, hs', hr', E⟩
  exact ⟨v, frz n D r, H', μ'.cut H', rfl, k, hs'.sub h1, frz_rep hs' h2 n r v hr', E.trans (Evo.cut w' μ' H')⟩

section
variable {P : Program} {ro : Option Nat} {N : Nat} {all : Array Oper} {rest : List Oper} {o : Oper} {K : AS → Prop} {sl : List (Nat × HV)} {H : Heap}
theorem o_yield {d : Nat} {aa : Array Operand} {ts : Array TypeId} {f : Operand} {id ver : Nat} {hs : List HV} (h0 : (o.dst, o.op) = (some d, .call ⟨.value f, aa, ts⟩)) (hf : (⟨sl, H⟩ : AS).ev f = some (.yl id ver)) (ha : aa.toList.mapM (⟨sl, H⟩ : AS).ev = some hs)
    (h : YCall P id ver hs H fun r H' => bops P ro N all rest K ⟨(d, r) :: sl, H'⟩) : aop P 0 [] o (fun s' => bops P ro N all rest K s') ⟨sl, H⟩ := by
  obtain ⟨h1, h2⟩ := Prod.mk.inj h0
  simp only [aop, h2, hf, ha]
  refine h.mono fun r H' hk => ?_
  rw [h1]
  exact bops_le (put_le (s := ⟨sl, H'⟩) d r) hk
theorem fresh_id (H : Heap) (d : Nat) : ∃ f, hget H (f * 1000 + d) = none := by
  have : ∀ H : Heap, ∃ m, ∀ j, m ≤ j → hget H j = none := by
    intro H
    induction H with
    | nil => exact ⟨0, fun _ _ => rfl⟩
    | cons p H ih =>
      obtain ⟨i, v, ob⟩ := p
      obtain ⟨m, hm⟩ := ih
      refine ⟨max m (i + 1), fun j hj => ?_⟩
      simp only [hget]
      rw [if_neg (by omega)]
      exact hm j (by omega)
  obtain ⟨m, hm⟩ := this H
  exact ⟨m, hm _ (by omega)⟩
theorem cons_le {H : Heap} {id ver : Nat} {ob : AObj} (hn : hget H id = none) : ∀ j x, hget H j = some x → hget ((id, ver, ob) :: H) j = some x := fun j x hx => by
  simp only [hget]
  rw [if_neg (fun e => by rw [e, hn] at hx; cases hx)]
  exact hx
theorem o_callK {d : Nat} {aa : Array Operand} {ts : Array TypeId} {f : Operand} {g : FuncId} {fs hs cs args : List HV} {q : HV} (H2 : Heap) (h0 : (o.dst, o.op) = (some d, .call ⟨.value f, aa, ts⟩)) (hf : (⟨sl, H⟩ : AS).ev f = some (.fn (.func g) fs cs)) (ha : aa.toList.mapM (⟨sl, H⟩ : AS).ev = some hs) (hargs : fs ++ hs ++ cs = args)
    (h : ∀ K : HV → Heap → Prop, K q H2 → ACall P g args H K) (k : bops P ro N all rest K ⟨(d, q) :: sl, H2⟩) : aop P 0 [] o (fun s' => bops P ro N all rest K s') ⟨sl, H⟩ := by
  obtain ⟨h1, h2⟩ := Prod.mk.inj h0
  refine op_call h2 hf ha hargs (h _ ?_)
  rw [h1]
  exact bops_le (put_le (s := ⟨sl, H2⟩) d q) k
theorem hset_le (H : Heap) (id ver : Nat) (ob : AObj) (sl : List (Nat × HV)) : (⟨sl, hset H id ver ob⟩ : AS).le ⟨sl, (id, ver, ob) :: H⟩ := ⟨fun _ _ h => h, fun i x hx => by
  simp only [hget] at hx
  simp only [hget_hset]
  exact hx⟩
theorem o_sortI {d : Nat} {aa : Array Operand} {ts : Array TypeId} {f : Operand} {g : FuncId} {id ver : Nat} {e : TypeId} {l : List Int} (hS : SortsI P g) (h0 : (o.dst, o.op) = (some d, .call ⟨.value f, aa, ts⟩)) (hf : (⟨sl, H⟩ : AS).ev f = some (.fn (.func g) [] [])) (ha : aa.toList.mapM (⟨sl, H⟩ : AS).ev = some [.ar id ver 1 0 l.length])
    (hg : hget H id = some (ver, .arr 1 e (l.map (.int .i64)))) (hl : l.length < 4611686018427387904) (k : bops P ro N all rest K ⟨(d, .tup []) :: sl, (id, ver, .arr 1 e ((sortI l).map (.int .i64))) :: H⟩) : aop P 0 [] o (fun s' => bops P ro N all rest K s') ⟨sl, H⟩ := by
  obtain ⟨h1, h2⟩ := Prod.mk.inj h0
  refine op_call h2 hf ha rfl (hS.arr H id ver e l _ hg hl ?_)
  rw [h1]
  exact bops_le (put_le (s := ⟨sl, hset H id ver _⟩) d _) (bops_le (hset_le H id ver _ _) k)
end

theorem SR.reobj {w : World} {μ : Mu} {H : Heap} (h : SR w μ H) {id ver : Nat} {o o' : AObj} (hg : hget H id = some (ver, o)) (ho : ∀ l, μ.loc id = some (ver, l) → OR w μ o l → OR w μ o' l) : SR w μ (hset H id ver o') where
  ok := h.ok
  has := fun j v x hj => by
    rw [hget_hset] at hj
    split at hj
    · rename_i e
      subst e
      cases hj
      obtain ⟨l, hl, hor⟩ := h.has j _ o hg
      exact ⟨l, hl, ho l hl hor⟩
    · exact h.has j v x hj
  only := fun j x hj => by
    rw [hget_hset]
    split
    · exact ⟨_, rfl⟩
    · exact h.only j x hj
  inj := h.inj
  held := h.held

theorem SR.le {w : World} {μ : Mu} {H H' : Heap} (h : SR w μ H) (he : ∀ j x, hget H' j = some x ↔ hget H j = some x) : SR w μ H' where
  ok := h.ok
  has := fun j v x hj => h.has j v x ((he j _).1 hj)
  only := fun j x hj => by
    obtain ⟨y, hy⟩ := h.only j x hj
    exact ⟨y, (he j y).2 hy⟩
  inj := h.inj
  held := h.held
section
variable {s : AS} {G : AS → Prop}
theorem to_ownC (id oid over n i k : Nat) (e e' : TypeId) {cells : List HV} (ho : hget s.heap oid = some (over, .arr n e' cells)) (hi : cells[i]? = some (.v (.slice none 0 0))) (hne : oid ≠ id)
    (h : ∀ ver, G { slots := s.slots, heap := (id, ver, .arr k e []) :: (oid, over, .arr n e' (cells.set i (.ar id ver k 0 0))) :: s.heap }) : s.to G := by
  intro ro N B μ a w hs
  have hE1 : Evo w μ w (μ.set id none) := Evo.repl hs.sr id none (Same.refl w) (Nat.le_refl _) (fun _ _ _ => rfl) (fun b hb => by cases hb)
  have hsr : SR w (μ.set id none) (hset s.heap id μ.nx (.arr k e [])) := hs.sr.repl id none _ (Same.refl w) (Nat.le_refl _) (fun _ _ _ => rfl) (fun b hb => by cases hb) rfl
  have hg : hget (hset s.heap id μ.nx (.arr k e [])) oid = some (over, .arr n e' cells) := by rw [hget_hset, if_neg hne]; exact ho
  have hsr2 := hsr.reobj (o' := .arr n e' (cells.set i (.ar id μ.nx k 0 0))) hg (fun l hl hor => by
    cases l with
    | none =>
      have : cells = [] := hor
      rw [this] at hi
      cases hi
    | some b =>
      obtain ⟨h0, cur, vs, rest, hrow, hcl, hrl⟩ := hor
      refine ⟨h0.set rfl i, cur, vs, rest, hrow, hcl, ?_⟩
      obtain ⟨x, hx, hxr⟩ := hrl.get hi
      have hset := RepL.set hrl (c := .ar id μ.nx k 0 0) (x := x) (.inl ⟨none, by simp [Mu.set], .inl ⟨rfl, hxr, rfl, rfl⟩⟩) i
      have hvs : vs.set i x = vs := by
        apply List.ext_getElem?
        intro j
        rw [List.getElem?_set]
        split
        · rename_i e
          subst e
          split
          · exact hx.symm
          · rename_i hlt
            rw [List.getElem?_eq_none (by omega)]
        · rfl
      rw [hvs] at hset
      exact hset)
  refine ⟨μ.set id none, _, h μ.nx, ⟨hs.size, hsr2.le fun j x => ?_, fun t hv ht => ⟨(hs.slot t hv ht).1, Rep.evo hE1 hs.sr.ok _ _ (hs.slot t hv ht).2⟩, hs.marks.evo hE1, hs.ro.evo hE1⟩, hE1⟩
  simp only [hget, hget_hset]
  by_cases h1 : j = id
  · subst h1
    rw [if_pos rfl, if_neg (Ne.symm hne), if_pos rfl]
  · rw [if_neg h1]
    by_cases h2 : j = oid
    · rw [if_pos h2, if_pos h2]
    · rw [if_neg h2, if_neg h2, if_neg h1]
end
end Go.AW

/- Laws of the loops of models. -/
namespace Go.AW
open Go

theorem loopN {S X : Type} {body : S → Option (Stp S X)} {Q : X → Prop} (n : Nat) (I : Nat → S → Prop)
    (step : ∀ i s, i < n → I i s → (∃ s', body s = some (.next s') ∧ I (i + 1) s') ∨ ∃ x, body s = some (.exit x) ∧ Q x) (fin : ∀ s, I n s → ∃ x, body s = some (.exit x) ∧ Q x) :
    ∀ (k : Nat) (s : S), k ≤ n → I k s → ∃ x, loopW body s = some x ∧ Q x := by
  intro k s hk h
  obtain ⟨d, rfl⟩ : ∃ d, n = k + d := ⟨n - k, by omega⟩
  induction d generalizing k s with
  | zero =>
    obtain ⟨x, h1, h2⟩ := fin s h
    exact ⟨x, loopW_exit h1, h2⟩
  | succ d ih =>
    rcases step k s (by omega) h with ⟨s', h1, h2⟩ | ⟨x, h1, h2⟩
    · have e : k + (d + 1) = (k + 1) + d := by omega
      rw [e] at step fin
      obtain ⟨x, h3, h4⟩ := ih (k + 1) s' h2 step fin (by omega)
      exact ⟨x, by rw [loopW_next h1]; exact h3, h4⟩
    · exact ⟨x, loopW_exit h1, h2⟩

theorem loop_any {S X : Type} {body : S → Option (Stp S X)} (st : Nat → S) (n : Nat) (p : Nat → Bool) (xr xf : X) (h : ∀ i, i < n → body (st i) = if p i = true then some (.exit xr) else some (.next (st (i + 1)))) (hf : body (st n) = some (.exit xf)) {s0 : S} (hs0 : s0 = st 0) :
    loopW body s0 = some (if (List.range n).any p = true then xr else xf) := by
  subst hs0
  obtain ⟨x, hx, hq⟩ := loopN (body := body) (Q := fun x => x = if (List.range n).any p = true then xr else xf) n (fun i s => s = st i ∧ (List.range i).any p = false) (fun i s hi ⟨hs, ha⟩ => by
    subst hs
    rw [h i hi]
    by_cases hp : p i = true
    · refine .inr ⟨xr, by rw [if_pos hp], ?_⟩
      rw [if_pos]
      exact List.any_eq_true.2 ⟨i, List.mem_range.2 hi, hp⟩
    · refine .inl ⟨_, by rw [if_neg hp], rfl, ?_⟩
      rw [List.range_succ, List.any_append, ha]
      simpa using hp) (fun s ⟨hs, ha⟩ => by subst hs; exact ⟨xf, hf, by rw [if_neg]; rw [ha]; simp⟩) 0 (st 0) (Nat.zero_le _) ⟨rfl, rfl⟩
  rw [hx, hq]

theorem loop_is {S X : Type} {body : S → Option (Stp S X)} (st : Nat → S) (n : Nat) (x : X) (h : ∀ i, i < n → body (st i) = some (.next (st (i + 1)))) (hf : body (st n) = some (.exit x)) {s0 : S} (hs0 : s0 = st 0) : loopW body s0 = some x := by
  subst hs0
  obtain ⟨y, hy, hq⟩ := loopN (body := body) (Q := fun y => y = x) n (fun i s => s = st i) (fun i s hi hs => by subst hs; exact .inl ⟨_, h i hi, rfl⟩) (fun s hs => by subst hs; exact ⟨x, hf, rfl⟩) 0 (st 0) (Nat.zero_le _) rfl
  rw [hy, hq]

theorem bindL {X R : Type} {o : Option X} {x : X} {M : X → Option R} {r : Option R} (h : o = some x) (k : M x = r) : o.bind M = r := by rw [h]; exact k
theorem lpL {V R Y : Type} {o : Option (Ou V R)} {x : Ou V R} {M : V → Option Y} {Rt : R → Option Y} {r : Option Y} (h : o = some x) (k : lpO (some x) M Rt = r) : lpO o M Rt = r := by rw [h]; exact k

theorem nx {i n : Nat} (hn : n ≤ 9223372036854775807) (h : i < n) : IntKind.wrap .i64 ((i : Int) + 1) = ((i + 1 : Nat) : Int) := by
  rw [w64 (by omega) (by omega)]; omega
theorem ix {α : Type} {l : List α} {i : Nat} (h : i < l.length) : idx l (i : Int) = some l[i] := by rw [idx_nat, List.getElem?_eq_getElem h]
theorem lt_int {i n : Nat} (h : i < n) : (i : Int) < (n : Int) := by omega
theorem not_lt_int (n : Nat) : ¬ (n : Int) < (n : Int) := by omega
end Go.AW

/- Structs of the program, and what the functions of the library that are not printed compute. -/
namespace Go.AW
open Go
abbrev TFromLabelTo := Int × Int × Int
abbrev cFromLabelTo (x : TFromLabelTo) : List HV := [HV.int .i64 x.1, HV.int .i64 x.2.1, HV.int .i64 x.2.2]
abbrev eFromLabelTo : EncL TFromLabelTo := encF 3 cFromLabelTo (fun _ => rfl)
abbrev TLabelsStatesEdges := Int × Int × (List (TFromLabelTo))
abbrev compact_ (l : List Int) : List Int := Lib.compact l
theorem compact_le (l : List Int) : (compact_ l).length ≤ l.length := by
  show (Lib.compactUpTo l.toArray l.length).length ≤ l.length
  unfold Lib.compactUpTo
  rw [List.length_map]
  exact Nat.le_trans (List.length_filter_le _ _) (by simp)
theorem compact_mem {l : List Int} {x : Int} (h : x ∈ compact_ l) : x ∈ l := by
  have h : x ∈ Lib.compactUpTo l.toArray l.length := h
  unfold Lib.compactUpTo at h
  obtain ⟨j, hj, rfl⟩ := List.mem_map.1 h
  have hj := List.mem_range.1 (List.mem_filter.1 hj).1
  have : l.toArray[j]! = l[j] := by simp [hj]
  rw [this]
  exact List.getElem_mem hj
noncomputable def m_strings_IndexByte (l : List UInt8) (c : Int) : Option Int := some (Lib.indexByte l c.toNat.toUInt8)
def leaveL (es : List TFromLabelTo) (s : Int) : List (Int × TFromLabelTo) := (es.zipIdx.filter fun p => decide (p.1.1 = s)).map fun p => ((p.2 : Int), p.1)
theorem leaveL_take (es : List TFromLabelTo) (s : Int) {i : Nat} (h : i < es.length) : leaveL (es.take (i + 1)) s = leaveL (es.take i) s ++ if es[i].1 = s then [((i : Int), es[i])] else [] := by
  have e : es.take (i + 1) = es.take i ++ [es[i]] := by rw [List.take_add_one, List.getElem?_eq_getElem h]; rfl
  rw [e]
  simp only [leaveL, List.zipIdx_append, List.filter_append, List.map_append, List.length_take, Nat.min_eq_left (Nat.le_of_lt h), Nat.zero_add]
  congr 1
  by_cases hs : es[i].1 = s <;> simp [List.zipIdx_cons, hs]
theorem leaveL_split (es : List TFromLabelTo) (s : Int) : ∀ (i : Nat), ∃ rest, leaveL es s = leaveL (es.take i) s ++ rest := fun i => by
  refine ⟨((es.drop i).zipIdx (es.take i).length |>.filter fun p => decide (p.1.1 = s)).map fun p => ((p.2 : Int), p.1), ?_⟩
  conv => lhs; rw [← List.take_append_drop i es]
  simp only [leaveL, List.zipIdx_append, List.filter_append, List.map_append, Nat.zero_add]
def y_graph_leaving (g : TLabelsStatesEdges) (s : Int) : Option (List (Int × TFromLabelTo)) := if g.2.2.length ≤ 9223372036854775807 then some (leaveL g.2.2 s) else none
end Go.AW

/- Regions that draw their order, piece by piece, in lockstep; guards of single operations. -/
namespace Go.AW
open Go
section
variable {P : Program} {ro : Option Nat} {N : Nat} {s : AS} {ops : Array Oper} {o : Oper} {sl : List (Nat × HV)} {H : Heap}

theorem AnyAt.eqc {Q : Exit → AS → Prop} {q : Nat} : Eqc (AnyAt P ro N ops Q q) := fun s s' he h w0 μ0 fuel listed μ1 a1 w1 h1 h2 h3 hs hE => h w0 μ0 fuel listed μ1 a1 w1 h1 h2 h3 (hs.eqv he) hE

theorem o_callA {all : Array Oper} {rest : List Oper} {K : AS → Prop} {d : Nat} {aa : Array Operand} {ts : Array TypeId} {f : Operand} {g : FuncId} {fs hs cs args : List HV} (h0 : (o.dst, o.op) = (some d, .call ⟨.value f, aa, ts⟩)) (hf : (⟨sl, H⟩ : AS).ev f = some (.fn (.func g) fs cs)) (ha : aa.toList.mapM (⟨sl, H⟩ : AS).ev = some hs) (hargs : fs ++ hs ++ cs = args)
    (h : ACall P g args H fun r H' => bops P ro N all rest K ⟨(d, r) :: sl, H'⟩) : aop P 0 [] o (fun s' => bops P ro N all rest K s') ⟨sl, H⟩ := by
  obtain ⟨h1, h2⟩ := Prod.mk.inj h0
  refine op_call h2 hf ha hargs (h.mono fun r H' hk => ?_)
  rw [h1]
  exact bops_le (put_le (s := ⟨sl, H'⟩) d r) hk

variable {K : AS → Prop}
end
end Go.AW

/- Lists of texts and of numbers; counting. -/
namespace Go.AW
open Go

theorem cnt_next {i n : Nat} (h : n ≤ 9223372036854775807) (hi : i < n) : IntKind.wrap .i64 ((i : Int) + 1) = ((i + 1 : Nat) : Int) := by
  rw [w64 (by omega) (by omega)]; omega
end Go.AW



namespace Go.Proofs
open Go

def Tryz.sortS_ren : Go.Shelf.Ren := ⟨fun | 6 => 185 | 8 => 65 | 9 => 214 | 19 => 116 | 20 => 117 | 21 => 235 | 22 => 236 | 23 => 237 | 24 => 238 | 25 => 239 | 26 => 240 | 27 => 104 | 28 => 241 | 29 => 242 | 36 => 252 | 31 => 245 | 32 => 246 | 37 => 253 | 38 => 254 | 39 => 155 | 41 => 256 | n => n, fun | 27 => 22 | 29 => 9 | 3 => 3 | 32 => 97 | 26 => 22 | 0 => 0 | 44 => 105 | 46 => 103 | 4 => 4 | 36 => 218 | 35 => 217 | 41 => 133 | 5 => 5 | 9 => 9 | 53 => 232 | 57 => 236 | 63 => 241 | 64 => 242 | n => n, fun | n => n⟩
theorem Tryz.sortS : Go.Proofs.SlLaysM.n6 Tryz.prog Tryz.sortS_ren where
  mixed := by kernel_rfl
  f6 := ⟨"slices.Sort[[]string,string]", by decide, Tryz.func185.trans (congrArg some (by kernel_rfl))⟩
  f8 := Tryz.func65.trans (congrArg some (by kernel_rfl))
  f9 := ⟨"slices.pdqsortOrdered[string]", by decide, Tryz.func214.trans (congrArg some (by kernel_rfl))⟩
  f19 := Tryz.func116.trans (congrArg some (by kernel_rfl))
  f20 := Tryz.func117.trans (congrArg some (by kernel_rfl))
  f21 := ⟨"slices.insertionSortOrdered[string]", by decide, Tryz.func235.trans (congrArg some (by kernel_rfl))⟩
  f22 := ⟨"slices.heapSortOrdered[string]", by decide, Tryz.func236.trans (congrArg some (by kernel_rfl))⟩
  f23 := ⟨"slices.breakPatternsOrdered[string]", by decide, Tryz.func237.trans (congrArg some (by kernel_rfl))⟩
  f24 := ⟨"slices.choosePivotOrdered[string]", by decide, Tryz.func238.trans (congrArg some (by kernel_rfl))⟩
  f25 := ⟨"slices.reverseRangeOrdered[string]", by decide, Tryz.func239.trans (congrArg some (by kernel_rfl))⟩
  f26 := ⟨"slices.partialInsertionSortOrdered[string]", by decide, Tryz.func240.trans (congrArg some (by kernel_rfl))⟩
  f27 := ⟨"cmp.Less[string]", by decide, Tryz.func104.trans (congrArg some (by kernel_rfl))⟩
  f28 := ⟨"slices.partitionEqualOrdered[string]", by decide, Tryz.func241.trans (congrArg some (by kernel_rfl))⟩
  f29 := ⟨"slices.partitionOrdered[string]", by decide, Tryz.func242.trans (congrArg some (by kernel_rfl))⟩
  f31 := Tryz.func245.trans (congrArg some (by kernel_rfl))
  f32 := Tryz.func246.trans (congrArg some (by kernel_rfl))
  f36 := ⟨"slices.siftDownOrdered[string]", by decide, Tryz.func252.trans (congrArg some (by kernel_rfl))⟩
  f37 := ⟨"slices.medianAdjacentOrdered[string]", by decide, Tryz.func253.trans (congrArg some (by kernel_rfl))⟩
  f38 := ⟨"slices.medianOrdered[string]", by decide, Tryz.func254.trans (congrArg some (by kernel_rfl))⟩
  f39 := ⟨"cmp.isNaN[string]", by decide, Tryz.func155.trans (congrArg some (by kernel_rfl))⟩
  f41 := ⟨"slices.order2Ordered[string]", by decide, Tryz.func256.trans (congrArg some (by kernel_rfl))⟩
  t0 := Tryz.underlying0
  a0 := Tryz.isAgg0
  z0 := Tryz.sizeOf0
  v0 := Tryz.zeroValue0
  t3 := Tryz.underlying3
  a3 := Tryz.isAgg3
  z3 := Tryz.sizeOf3
  v3 := Tryz.zeroValue3
  t4 := Tryz.underlying4
  a4 := Tryz.isAgg4
  z4 := Tryz.sizeOf4
  v4 := Tryz.zeroValue4
  t5 := Tryz.underlying5
  a5 := Tryz.isAgg5
  z5 := Tryz.sizeOf5
  v5 := Tryz.zeroValue5
  t9 := Tryz.underlying9
  a9 := Tryz.isAgg9
  z9 := Tryz.sizeOf9
  v9 := Tryz.zeroValue9
  t26 := Tryz.underlying22
  a26 := Tryz.isAgg22
  z26 := Tryz.sizeOf22
  v26 := Tryz.zeroValue22
  t27 := Tryz.underlying22
  a27 := Tryz.isAgg22
  z27 := Tryz.sizeOf22
  v27 := Tryz.zeroValue22
  t29 := Tryz.underlying9
  a29 := Tryz.isAgg9
  z29 := Tryz.sizeOf9
  v29 := Tryz.zeroValue9
  t32 := Tryz.underlying97
  a32 := Tryz.isAgg97
  z32 := Tryz.sizeOf97
  v32 := Tryz.zeroValue97
  t35 := Tryz.underlying217
  a35 := Tryz.isAgg217
  z35 := Tryz.sizeOf217
  v35 := Tryz.zeroValue217
  t36 := Tryz.underlying218
  a36 := Tryz.isAgg218
  z36 := Tryz.sizeOf218
  v36 := Tryz.zeroValue218
  t41 := Tryz.underlying133
  a41 := Tryz.isAgg133
  z41 := Tryz.sizeOf133
  v41 := Tryz.zeroValue133
  t44 := Tryz.underlying105
  a44 := Tryz.isAgg105
  z44 := Tryz.sizeOf105
  v44 := Tryz.zeroValue105
  t46 := Tryz.underlying103
  a46 := Tryz.isAgg103
  z46 := Tryz.sizeOf103
  v46 := Tryz.zeroValue103
  t53 := Tryz.underlying232
  a53 := Tryz.isAgg232
  z53 := Tryz.sizeOf232
  v53 := Tryz.zeroValue232
  t57 := Tryz.underlying236
  a57 := Tryz.isAgg236
  z57 := Tryz.sizeOf236
  v57 := Tryz.zeroValue236
  t63 := Tryz.underlying241
  a63 := Tryz.isAgg241
  z63 := Tryz.sizeOf241
  v63 := Tryz.zeroValue241
  t64 := Tryz.underlying242
  a64 := Tryz.isAgg242
  z64 := Tryz.sizeOf242
  v64 := Tryz.zeroValue242
def Tryz.sortI_ren : Go.Shelf.Ren := ⟨fun | 5 => 160 | 8 => 65 | 7 => 195 | 19 => 116 | 20 => 117 | 10 => 218 | 11 => 219 | 12 => 220 | 13 => 221 | 14 => 222 | 15 => 223 | 16 => 76 | 17 => 224 | 18 => 225 | 30 => 244 | 31 => 245 | 32 => 246 | 33 => 247 | 34 => 248 | 35 => 125 | 40 => 255 | n => n, fun | 23 => 31 | 25 => 3 | 3 => 3 | 32 => 97 | 22 => 31 | 0 => 0 | 44 => 105 | 46 => 103 | 4 => 4 | 36 => 218 | 35 => 217 | 41 => 133 | 5 => 5 | 9 => 9 | 53 => 232 | 57 => 236 | 63 => 241 | 64 => 242 | n => n, fun | n => n⟩
theorem Tryz.sortI : Go.Proofs.SlLaysM.n5 Tryz.prog Tryz.sortI_ren where
  mixed := by kernel_rfl
  f5 := ⟨"slices.Sort[[]int,int]", by decide, Tryz.func160.trans (congrArg some (by kernel_rfl))⟩
  f7 := ⟨"slices.pdqsortOrdered[int]", by decide, Tryz.func195.trans (congrArg some (by kernel_rfl))⟩
  f8 := Tryz.func65.trans (congrArg some (by kernel_rfl))
  f10 := ⟨"slices.insertionSortOrdered[int]", by decide, Tryz.func218.trans (congrArg some (by kernel_rfl))⟩
  f11 := ⟨"slices.heapSortOrdered[int]", by decide, Tryz.func219.trans (congrArg some (by kernel_rfl))⟩
  f12 := ⟨"slices.breakPatternsOrdered[int]", by decide, Tryz.func220.trans (congrArg some (by kernel_rfl))⟩
  f13 := ⟨"slices.choosePivotOrdered[int]", by decide, Tryz.func221.trans (congrArg some (by kernel_rfl))⟩
  f14 := ⟨"slices.reverseRangeOrdered[int]", by decide, Tryz.func222.trans (congrArg some (by kernel_rfl))⟩
  f15 := ⟨"slices.partialInsertionSortOrdered[int]", by decide, Tryz.func223.trans (congrArg some (by kernel_rfl))⟩
  f16 := ⟨"cmp.Less[int]", by decide, Tryz.func76.trans (congrArg some (by kernel_rfl))⟩
  f17 := ⟨"slices.partitionEqualOrdered[int]", by decide, Tryz.func224.trans (congrArg some (by kernel_rfl))⟩
  f18 := ⟨"slices.partitionOrdered[int]", by decide, Tryz.func225.trans (congrArg some (by kernel_rfl))⟩
  f19 := Tryz.func116.trans (congrArg some (by kernel_rfl))
  f20 := Tryz.func117.trans (congrArg some (by kernel_rfl))
  f30 := ⟨"slices.siftDownOrdered[int]", by decide, Tryz.func244.trans (congrArg some (by kernel_rfl))⟩
  f31 := Tryz.func245.trans (congrArg some (by kernel_rfl))
  f32 := Tryz.func246.trans (congrArg some (by kernel_rfl))
  f33 := ⟨"slices.medianAdjacentOrdered[int]", by decide, Tryz.func247.trans (congrArg some (by kernel_rfl))⟩
  f34 := ⟨"slices.medianOrdered[int]", by decide, Tryz.func248.trans (congrArg some (by kernel_rfl))⟩
  f35 := ⟨"cmp.isNaN[int]", by decide, Tryz.func125.trans (congrArg some (by kernel_rfl))⟩
  f40 := ⟨"slices.order2Ordered[int]", by decide, Tryz.func255.trans (congrArg some (by kernel_rfl))⟩
  t0 := Tryz.underlying0
  a0 := Tryz.isAgg0
  z0 := Tryz.sizeOf0
  v0 := Tryz.zeroValue0
  t3 := Tryz.underlying3
  a3 := Tryz.isAgg3
  z3 := Tryz.sizeOf3
  v3 := Tryz.zeroValue3
  t4 := Tryz.underlying4
  a4 := Tryz.isAgg4
  z4 := Tryz.sizeOf4
  v4 := Tryz.zeroValue4
  t5 := Tryz.underlying5
  a5 := Tryz.isAgg5
  z5 := Tryz.sizeOf5
  v5 := Tryz.zeroValue5
  t9 := Tryz.underlying9
  a9 := Tryz.isAgg9
  z9 := Tryz.sizeOf9
  v9 := Tryz.zeroValue9
  t22 := Tryz.underlying31
  a22 := Tryz.isAgg31
  z22 := Tryz.sizeOf31
  v22 := Tryz.zeroValue31
  t23 := Tryz.underlying31
  a23 := Tryz.isAgg31
  z23 := Tryz.sizeOf31
  v23 := Tryz.zeroValue31
  t25 := Tryz.underlying3
  a25 := Tryz.isAgg3
  z25 := Tryz.sizeOf3
  v25 := Tryz.zeroValue3
  t32 := Tryz.underlying97
  a32 := Tryz.isAgg97
  z32 := Tryz.sizeOf97
  v32 := Tryz.zeroValue97
  t35 := Tryz.underlying217
  a35 := Tryz.isAgg217
  z35 := Tryz.sizeOf217
  v35 := Tryz.zeroValue217
  t36 := Tryz.underlying218
  a36 := Tryz.isAgg218
  z36 := Tryz.sizeOf218
  v36 := Tryz.zeroValue218
  t41 := Tryz.underlying133
  a41 := Tryz.isAgg133
  z41 := Tryz.sizeOf133
  v41 := Tryz.zeroValue133
  t44 := Tryz.underlying105
  a44 := Tryz.isAgg105
  z44 := Tryz.sizeOf105
  v44 := Tryz.zeroValue105
  t46 := Tryz.underlying103
  a46 := Tryz.isAgg103
  z46 := Tryz.sizeOf103
  v46 := Tryz.zeroValue103
  t53 := Tryz.underlying232
  a53 := Tryz.isAgg232
  z53 := Tryz.sizeOf232
  v53 := Tryz.zeroValue232
  t57 := Tryz.underlying236
  a57 := Tryz.isAgg236
  z57 := Tryz.sizeOf236
  v57 := Tryz.zeroValue236
  t63 := Tryz.underlying241
  a63 := Tryz.isAgg241
  z63 := Tryz.sizeOf241
  v63 := Tryz.zeroValue241
  t64 := Tryz.underlying242
  a64 := Tryz.isAgg242
  z64 := Tryz.sizeOf242
  v64 := Tryz.zeroValue242
end Go.Proofs

namespace Go.AW
open Go Go.Proofs Go.Sort

theorem repL_map {α : Type} {w : World} {μ : Mu} {f : α → HV} {g : α → Value} : ∀ {l : List α}, RepL w μ (l.map f) (l.map g) ↔ ∀ x ∈ l, Rep w μ (f x) (g x)
  | [] => by simp [RepL]
  | a :: l => by
    simp only [List.map_cons, RepL, List.mem_cons, forall_eq_or_imp]
    constructor
    · rintro ⟨x, xs, e, h1, h2⟩
      cases e
      exact ⟨h1, repL_map.1 h2⟩
    · exact fun ⟨h1, h2⟩ => ⟨_, _, rfl, h1, repL_map.2 h2⟩

theorem sorted_world {α : Type} [Inhabited α] {enc : α → Value} {f : α → HV} (hf1 : ∀ x, (f x).one = true) {w : World} {μ : Mu} {H : Heap} {id ver b k : Nat} {e : TypeId} {l d : List α} (hs : SR w μ H) (hg : hget H id = some (ver, .arr k e (l.map f)))
    (hl : μ.loc id = some (ver, some b)) (hrep : ∀ x ∈ l, Rep w μ (f x) (enc x)) (hor : OR w μ (.arr k e (l.map f)) (some b)) (hv : ∀ vs, RepL w μ (l.map f) vs → vs = l.map enc) (hp : d.Perm l) (n : Nat) (os : Array Obj) :
    SR (grow (putRow enc (Sort.ahead w n) b 0 d.toArray) os) μ (hset H id ver (.arr k e (d.map f))) ∧ Evo w μ (grow (putRow enc (Sort.ahead w n) b 0 d.toArray) os) μ := by
  obtain ⟨h0, cur, vs, rest, hrow, hcl, hrl⟩ := hor
  have hvs := hv vs hrl
  subst hvs
  have hlen : d.length = l.length := hp.length_eq
  have hcsz : cur.size = l.length + rest.length := by rw [← Array.length_toList, hcl]; simp
  -- the world with the row put
  have hb := hrow.lt
  obtain ⟨lo, hi, hbk, hfr⟩ := hrow
  have hbk' : (putRow enc (Sort.ahead w n) b 0 d.toArray).heap[b]? = some (.cells (putCells enc 0 d.toArray cur) e (lo, hi)) := by
    show (w.heap.modify b _)[b]? = _
    rw [Array.getElem?_modify, if_pos rfl, hbk]
    rfl
  have hcur' : (putCells enc 0 d.toArray cur).toList = d.map enc ++ rest := by
    apply List.ext_getElem?
    intro i
    rw [Array.getElem?_toList]
    simp only [putCells, Array.getElem?_mapIdx]
    have hc : cur[i]? = (l.map enc ++ rest)[i]? := by rw [← hcl, Array.getElem?_toList]
    rw [hc]
    rcases Nat.lt_or_ge i d.length with hi | hi
    · rw [List.getElem?_append_left (by simp; omega), List.getElem?_append_left (by simpa using hi), List.getElem?_map, List.getElem?_map, List.getElem?_eq_getElem (by omega : i < l.length), List.getElem?_eq_getElem hi]
      simp only [Option.map_some]
      rw [if_pos ⟨Nat.zero_le _, by simpa using hi⟩]
      simp [hi]
    · rw [List.getElem?_append_right (by simp; omega), List.getElem?_append_right (by simpa using hi)]
      simp only [List.length_map, hlen]
      cases rest[i - l.length]? with
      | none => rfl
      | some x =>
        simp only [Option.map_some]
        rw [if_neg (by simp; omega)]
  have hsz1 : (putRow enc (Sort.ahead w n) b 0 d.toArray).heap.size = w.heap.size := by rw [size_putRow]; rfl
  have hrow1 : Row (putRow enc (Sort.ahead w n) b 0 d.toArray) b (putCells enc 0 d.toArray cur) e := ⟨lo, hi, hbk', by simpa [putCells] using hfr⟩
  have hold : ∀ b', b' ≠ b → (putRow enc (Sort.ahead w n) b 0 d.toArray).heap[b']? = w.heap[b']? := fun b' hne => by
    show (w.heap.modify b _)[b']? = _
    rw [Array.getElem?_modify, if_neg (fun e => hne e.symm)]
  obtain ⟨h1, h2⟩ := hs.updArr (cs' := d.map f) (w' := putRow enc (Sort.ahead w n) b 0 d.toArray) hg hl ⟨rfl, rfl, rfl⟩ hsz1 hold ⟨lo, hi, hbk, hfr⟩ hrow1 (by simp [putCells]) fun E => by
    refine ⟨fun c hc => ?_, _, d.map enc, rest, hrow1, hcur', repL_map.2 fun x hx => Rep.evo E hs.ok _ _ (hrep x (hp.mem_iff.1 hx))⟩
    obtain ⟨x, _, rfl⟩ := List.mem_map.1 hc
    exact hf1 x
  have g : Grow (putRow enc (Sort.ahead w n) b 0 d.toArray) (grow (putRow enc (Sort.ahead w n) b 0 d.toArray) os) :=
    ⟨⟨rfl, rfl, rfl⟩, by rw [size_grow]; omega, fun b' hb' => by
      show (_ ++ os)[b']? = _
      rw [Array.getElem?_append_left hb']⟩
  exact ⟨h1.grow g, h2.trans (Evo.grow h1 g)⟩

theorem holds_row {α : Type} [Inhabited α] {enc : α → Value} {w : World} {b : Nat} {cur : Array Value} {e : TypeId} {l : List α} {rest : List Value} (hrow : Row w b cur e) (hcl : cur.toList = l.map enc ++ rest) : Holds enc w b 0 l.toArray := by
  intro j hj
  have hj' : j < l.length := by simpa using hj
  have hc : cur[j]? = some (enc l[j]) := by
    rw [← Array.getElem?_toList, hcl, List.getElem?_append_left (by simpa using hj'), List.getElem?_map, List.getElem?_eq_getElem hj']
    rfl
  refine ⟨?_, ?_⟩
  · rw [Nat.zero_add, hrow.cell, hc]
    simp [hj']
  · rw [Nat.zero_add]
    exact hrow.free (Array.getElem?_eq_some_iff.1 hc).1

theorem repL_ints {w : World} {μ : Mu} : ∀ {l : List Int} {vs : List Value}, RepL w μ (l.map (.int .i64)) vs → vs = l.map (Value.int .i64) ∧ ∀ x ∈ l, Rep w μ (.int .i64 x) (Value.int .i64 x)
  | [], vs, h => by simp only [List.map_nil, RepL] at h; subst h; exact ⟨rfl, by simp⟩
  | a :: l, vs, ⟨x, xs, e, h1, h2⟩ => by
    obtain ⟨h3, h4⟩ := repL_ints h2
    obtain ⟨rfl, hl⟩ := h1
    subst e
    rw [h3]
    exact ⟨rfl, by simpa using ⟨⟨rfl, hl⟩, h4⟩⟩

theorem w179 {H : Heap} {id ver : Nat} {e : TypeId} {l : List Int} {K : HV → Heap → Prop} (hg : hget H id = some (ver, .arr 1 e (l.map (.int .i64)))) (hlen : l.length < 4611686018427387904)
    (hK : K (.tup []) (hset H id ver (.arr 1 e ((sortI l).map (.int .i64))))) : ACall Tryz.prog 160 [.ar id ver 1 0 l.length] H K := by
  refine ⟨enters' Tryz.func160 rfl rfl, fun μ w vs hs hr => ?_⟩
  obtain ⟨x, xs, rfl, hr, hn⟩ := hr
  cases hn
  obtain ⟨lo, hl, hor⟩ := hs.has _ _ _ hg
  rcases hr with ⟨lo', hl', h⟩ | ⟨hd, _⟩
  · rw [hl] at hl'
    cases hl'
    rcases h with ⟨rfl, rfl, h0, _⟩ | ⟨b, cap, cur, e', rfl, rfl, hcap, _, hrow, hsz⟩
    · have h0' : l = [] := List.eq_nil_of_length_eq_zero h0
      subst h0'
      refine (AnyM.slices_Sort_int_none Tryz.sortI none 0 w).mono ?_
      rintro e' w' ⟨rfl, rfl⟩
      refine ⟨_, .tup [], _, μ, rfl, hK, ?_, ⟨[], rfl, rfl⟩, Evo.refl _ _⟩
      have : (sortI []).map (HV.int .i64) = [] := by simp [sortI]
      rw [this]
      exact hs.same hg
    · have hor' := hor
      obtain ⟨h0, cur', vs', rest, hrow', hcl, hrl⟩ := hor
      obtain ⟨hvs, hreps⟩ := repL_ints hrl
      subst hvs
      refine (AnyM.slices_Sort_int Tryz.sortI b 0 cap l w (holds_row hrow' hcl) hrow'.lt hlen).mono ?_
      rintro e2 w' ⟨rfl, n, os, rfl⟩
      obtain ⟨h1, h2⟩ := sorted_world (f := HV.int .i64) (fun _ => rfl) hs hg hl hreps hor' (fun vs hv => (repL_ints hv).1) (List.mergeSort_perm l _) n os
      exact ⟨_, .tup [], _, μ, rfl, hK, h1, ⟨[], rfl, rfl⟩, h2⟩
  · exact absurd hl (hd.2 lo)

theorem sorts179 : SortsI Tryz.prog 160 := by
  refine ⟨fun _ _ _ _ _ _ hg hl hK => w179 hg hl hK, fun H K hK => ⟨enters' Tryz.func160 rfl rfl, fun μ w vs hs hr => ?_⟩⟩
  obtain ⟨x, xs, rfl, hr, hn⟩ := hr
  cases hn
  cases hr
  refine (AnyM.slices_Sort_int_none Tryz.sortI none 0 w).mono ?_
  rintro e' w' ⟨rfl, rfl⟩
  exact ⟨_, .tup [], _, μ, rfl, hK, hs, ⟨[], rfl, rfl⟩, Evo.refl _ _⟩
end Go.AW

namespace Go.AW
open Go Go.Proofs Go.Sort Go.Lib
theorem put_world {α : Type} [Inhabited α] {enc : α → Value} {f : α → HV} (hf1 : ∀ x, (f x).one = true) {w : World} {μ : Mu} {H : Heap} {id ver b k : Nat} {e : TypeId} {l d : List α} (hs : SR w μ H) (hg : hget H id = some (ver, .arr k e (l.map f)))
    (hl : μ.loc id = some (ver, some b)) (hrep : ∀ x ∈ d, Rep w μ (f x) (enc x)) (hor : OR w μ (.arr k e (l.map f)) (some b)) (hv : ∀ vs, RepL w μ (l.map f) vs → vs = l.map enc) (hlen : d.length = l.length) (n : Nat) :
    SR (putRow enc (Sort.ahead w n) b 0 d.toArray) μ (hset H id ver (.arr k e (d.map f))) ∧ Evo w μ (putRow enc (Sort.ahead w n) b 0 d.toArray) μ := by
  obtain ⟨h0, cur, vs, rest, hrow, hcl, hrl⟩ := hor
  have hvs := hv vs hrl
  subst hvs
  have hcsz : cur.size = l.length + rest.length := by rw [← Array.length_toList, hcl]; simp
  obtain ⟨lo, hi, hbk, hfr⟩ := hrow
  have hbk' : (putRow enc (Sort.ahead w n) b 0 d.toArray).heap[b]? = some (.cells (putCells enc 0 d.toArray cur) e (lo, hi)) := by
    show (w.heap.modify b _)[b]? = _
    rw [Array.getElem?_modify, if_pos rfl, hbk]
    rfl
  have hcur' : (putCells enc 0 d.toArray cur).toList = d.map enc ++ rest := by
    apply List.ext_getElem?
    intro i
    rw [Array.getElem?_toList]
    simp only [putCells, Array.getElem?_mapIdx]
    have hc : cur[i]? = (l.map enc ++ rest)[i]? := by rw [← hcl, Array.getElem?_toList]
    rw [hc]
    rcases Nat.lt_or_ge i d.length with hi | hi
    · rw [List.getElem?_append_left (by simp; omega), List.getElem?_append_left (by simpa using hi), List.getElem?_map, List.getElem?_map, List.getElem?_eq_getElem (by omega : i < l.length), List.getElem?_eq_getElem hi]
      simp only [Option.map_some]
      rw [if_pos ⟨Nat.zero_le _, by simpa using hi⟩]
      simp [hi]
    · rw [List.getElem?_append_right (by simp; omega), List.getElem?_append_right (by simpa using hi)]
      simp only [List.length_map, hlen]
      cases rest[i - l.length]? with
      | none => rfl
      | some x =>
        simp only [Option.map_some]
        rw [if_neg (by simp; omega)]
  have hsz1 : (putRow enc (Sort.ahead w n) b 0 d.toArray).heap.size = w.heap.size := by rw [size_putRow]; rfl
  have hrow1 : Row (putRow enc (Sort.ahead w n) b 0 d.toArray) b (putCells enc 0 d.toArray cur) e := ⟨lo, hi, hbk', by simpa [putCells] using hfr⟩
  have hold : ∀ b', b' ≠ b → (putRow enc (Sort.ahead w n) b 0 d.toArray).heap[b']? = w.heap[b']? := fun b' hne => by
    show (w.heap.modify b _)[b']? = _
    rw [Array.getElem?_modify, if_neg (fun e => hne e.symm)]
  exact hs.updArr (cs' := d.map f) (w' := putRow enc (Sort.ahead w n) b 0 d.toArray) hg hl ⟨rfl, rfl, rfl⟩ hsz1 hold ⟨lo, hi, hbk, hfr⟩ hrow1 (by simp [putCells]) fun E => by
    refine ⟨fun c hc => ?_, _, d.map enc, rest, hrow1, hcur', repL_map.2 fun x hx => Rep.evo E hs.ok _ _ (hrep x hx)⟩
    obtain ⟨x, _, rfl⟩ := List.mem_map.1 hc
    exact hf1 x
end Go.AW

namespace Go.Proofs
open Go

set_option maxHeartbeats 1000000 in
set_option maxRecDepth 100000 in
theorem Tryz.stringslite_IndexByte (s : ByteArray) (c : Int) (w : World) :
    Calls Tryz.prog 162 #[.string s, .int .u8 c] w fun e w' => e = .returned (.int .i64 (Lib.indexByte s.data.toList c.toNat.toUInt8)) ∧ w' = w := by
  go_enter Tryz.func162, Tryz.ntmps162
  go_wp2
  rw [run_callFunc_extern Tryz.func196 (by kernel_rfl) (by kernel_rfl) (by kernel_rfl) (e := Extern.BytealgIndexByte.indexByte) (by kernel_rfl), Lib.run_indexByteString]
  simp only [Result.andThen]
  rw [Oper.upon_value]
  go_wp2
  go_ret
  exact ⟨rfl, rfl⟩

set_option maxHeartbeats 1000000 in
theorem Tryz.strings_IndexByte (s : ByteArray) (c : Int) (w : World) :
    Calls Tryz.prog 109 #[.string s, .int .u8 c] w fun e w' => e = .returned (.int .i64 (Lib.indexByte s.data.toList c.toNat.toUInt8)) ∧ w' = w := by
  go_enter Tryz.func109, Tryz.ntmps109
  go_wp2_with (go_at_call 162; refine (Tryz.stringslite_IndexByte _ _ _).mono ?_; rintro e w' ⟨rfl, rfl⟩)
  go_ret
  exact ⟨rfl, rfl⟩

end Go.Proofs
namespace Go.AW
open Go Go.Proofs

theorem idx_wf (l : List UInt8) (c : UInt8) (hl : l.length ≤ maxLen) : (Lit.int .i64 (Lib.indexByte l c)).wf = true := by
  have h : ∀ l : List UInt8, -1 ≤ Lib.indexByte l c ∧ Lib.indexByte l c ≤ l.length := by
    intro l
    induction l with
    | nil => simp [Lib.indexByte]
    | cons a l ih =>
      simp only [Lib.indexByte, List.length_cons]
      split
      · omega
      · split
        · omega
        · omega
  have := h l
  simp only [maxLen] at hl
  simp only [Lit.wf, IntKind.min, IntKind.max, IntKind.signed, IntKind.bits, Bool.and_eq_true, decide_eq_true_eq]
  simp
  omega

theorem w51 (l : List UInt8) (c : Int) : Pure Tryz.prog 109 [.str l, .int .u8 c] (· = .int .i64 (Lib.indexByte l c.toNat.toUInt8)) := by
  refine ⟨enters' Tryz.func109 rfl rfl, fun μ w vs hs hr => ?_⟩
  obtain ⟨x, xs, rfl, ⟨rfl, hl⟩, y, ys, rfl, ⟨rfl, _⟩, hn⟩ := hr
  cases hn
  refine (Tryz.strings_IndexByte ⟨l.toArray⟩ c w).mono ?_
  rintro e w' ⟨rfl, rfl⟩
  exact ⟨_, _, [], μ, rfl, ⟨rfl, trivial, rfl⟩, hs, ⟨by simp, idx_wf l _ hl⟩, Evo.refl _ _⟩
end Go.AW

namespace Go.Proofs
open Go
def Tryz.compI_ren : Go.Shelf.Ren := ⟨fun | 20 => 161 | n => n, fun | 22 => 31 | 3 => 3 | 4 => 4 | 0 => 0 | n => n, fun | n => n⟩
theorem Tryz.compI : Go.Proofs.Lays2.n20 Tryz.prog Tryz.compI_ren where
  mixed := by kernel_rfl
  f20 := Tryz.func161.trans (congrArg some (by kernel_rfl))
  t0 := Tryz.underlying0
  a0 := Tryz.isAgg0
  z0 := Tryz.sizeOf0
  v0 := Tryz.zeroValue0
  t3 := Tryz.underlying3
  a3 := Tryz.isAgg3
  z3 := Tryz.sizeOf3
  v3 := Tryz.zeroValue3
  t4 := Tryz.underlying4
  a4 := Tryz.isAgg4
  z4 := Tryz.sizeOf4
  v4 := Tryz.zeroValue4
  t22 := Tryz.underlying31
  a22 := Tryz.isAgg31
  z22 := Tryz.sizeOf31
  v22 := Tryz.zeroValue31
  i3 := by kernel_rfl
end Go.Proofs
namespace Go.AW
open Go Go.Proofs Go.Sort Go.Lib
set_option linter.unusedVariables false

theorem c_sortI : SortsI Tryz.prog 160 := sorts179
theorem w180 {H : Heap} {id ver : Nat} {e : TypeId} {l : List Int} {K : HV → Heap → Prop} (hg : hget H id = some (ver, .arr 1 e (l.map (.int .i64))))
    (hK : K (.ar id ver 1 0 (compact_ l).length) (hset H id ver (.arr 1 e ((compact_ l ++ List.replicate (l.length - (compact_ l).length) 0).map (.int .i64))))) : ACall Tryz.prog 161 [.ar id ver 1 0 l.length] H K := by
  refine ⟨enters' Tryz.func161 rfl rfl, fun μ w vs hs hr => ?_⟩
  obtain ⟨x, xs, rfl, hr, hn⟩ := hr
  cases hn
  obtain ⟨lo, hl, hor⟩ := hs.has _ _ _ hg
  rcases hr with ⟨lo', hl', h⟩ | ⟨hd, _⟩
  · rw [hl] at hl'
    cases hl'
    rcases h with ⟨rfl, rfl, h0, _⟩ | ⟨b, cap, cur, e', rfl, rfl, hcap, hcm, hrow, hsz⟩
    · have hl0 := List.eq_nil_of_length_eq_zero h0
      subst hl0
      refine (Any.slices_Compact_int_empty Tryz.compI none 0 w).mono ?_
      rintro e2 w' ⟨rfl, rfl⟩
      refine ⟨_, .ar id ver 1 0 0, _, μ, rfl, hK, hs.reobj hg fun l hl hor => hor, .inl ⟨none, hl, .inl ⟨rfl, rfl, rfl, rfl⟩⟩, Evo.refl _ _⟩
    · have hor' := hor
      obtain ⟨h0, cur', vs', rest, hrow', hcl, hrl⟩ := hor
      obtain ⟨hvs, hreps⟩ := repL_ints hrl
      subst hvs
      refine (Any.slices_Compact_int Tryz.compI b 0 cap l w (holds_row hrow' hcl) (by have := hcm; simp only [maxLen] at this; omega) hcap).mono ?_
      · rintro e2 w' ⟨rfl, n, rfl⟩
        have hle := compact_le l
        have hlen : (compact_ l ++ List.replicate (l.length - (compact_ l).length) (0 : Int)).length = l.length := by simp; omega
        obtain ⟨h1, h2⟩ := put_world (f := HV.int .i64) (fun _ => rfl) hs hg hl (d := compact_ l ++ List.replicate (l.length - (compact_ l).length) 0) (fun x hx => by
          rcases List.mem_append.1 hx with hx | hx
          · exact hreps x (compact_mem hx)
          · rw [List.eq_of_mem_replicate hx]; exact ⟨rfl, rfl⟩) hor' (fun vs hv => (repL_ints hv).1) hlen n
        refine ⟨_, .ar id ver 1 0 (compact_ l).length, _, μ, rfl, hK, h1, .inl ⟨some b, hl, .inr ⟨b, cap, putCells (Value.int .i64) 0 (compact_ l ++ List.replicate (l.length - (compact_ l).length) 0).toArray cur, e', rfl, by simp, by omega, hcm, ?_, ?_⟩⟩, h2⟩
        · obtain ⟨lo, hi, hbk, hfr⟩ := hrow
          refine ⟨lo, hi, ?_, by simpa [putCells] using hfr⟩
          show (w.heap.modify b _)[b]? = _
          rw [Array.getElem?_modify, if_pos rfl, hbk]
          rfl
        · simp only [putCells, Array.size_mapIdx]; exact hsz
  · exact absurd hl (hd.2 lo)

theorem c_compactI {H H' : Heap} {id ver n : Nat} {e : TypeId} {l : List Int} {K : HV → Heap → Prop} (hn : n = l.length) (hg : hget H id = some (ver, .arr 1 e (l.map (.int .i64)))) (hle : ∀ j x, hget H' j = some x → hget H j = some x) (hno : hget H' id = none)
    (hK : K (slE eInt (compact_ l)) H') : ACall Tryz.prog 161 [.ar id ver 1 0 n] H K := by
  subst hn
  have hlen := compact_le l
  refine ACall.freeze 2 [(id, ver, .arr 1 e ((compact_ l ++ List.replicate (l.length - (compact_ l).length) 0).map (.int .i64)))] H' (w180 hg ⟨fun j x hx => ?_, fun j x hx => ?_, ?_⟩)
  · rw [hget_hset, if_neg (fun e => by rw [e, hno] at hx; cases hx)]
    exact hle j x hx
  · simp only [hget] at hx
    split at hx
    · rename_i e
      subst e
      cases hx
      exact ⟨by rw [hget_hset, if_pos rfl], hno⟩
    · cases hx
  · have : frz 2 [(id, ver, .arr 1 e ((compact_ l ++ List.replicate (l.length - (compact_ l).length) 0).map (.int .i64)))] (.ar id ver 1 0 (compact_ l).length) = slE eInt (compact_ l) := by
      have h0 : hget [(id, ver, AObj.arr 1 e ((compact_ l ++ List.replicate (l.length - (compact_ l).length) 0).map (.int .i64)))] id = some (ver, .arr 1 e ((compact_ l ++ List.replicate (l.length - (compact_ l).length) 0).map (.int .i64))) := by simp only [hget, if_true]
      rw [frz, h0]
      have h1 : ver = ver ∧ 0 + (compact_ l).length * 1 ≤ ((compact_ l ++ List.replicate (l.length - (compact_ l).length) (0 : Int)).map (HV.int .i64)).length := ⟨rfl, by simp⟩
      refine (if_pos h1).trans ?_
      rw [List.drop_zero, Nat.mul_one, List.map_append, List.take_left' (List.length_map _), List.map_map]
      rfl
    rw [this]
    exact hK

theorem w_strings_IndexByte {l : List UInt8} {c r : Int} (h : m_strings_IndexByte l c = some r) : Pure Tryz.prog 109 [HV.str l, HV.int .u8 c] (· = HV.int .i64 r) := by
  cases h
  exact w51 l c
end Go.AW

namespace Go.AW
open Go

def letters : List UInt8 := [48, 49, 50, 51, 52, 53, 54, 55, 56, 57, 97, 98, 99, 100, 101, 102]

section
variable {stp : List Int → UInt8 → List Int} {cs : List UInt8} {set : List Int}

end

end Go.AW

namespace Go.AW
open Go Go.Proofs
theorem fw27_0 : fieldOf Tryz.prog 27 0 = some (0, { desc := TypeDesc.int .i64, size := 1, bytes := 8, zero := Value.int .i64 0 }) := by kernel_rfl
theorem fw27_1 : fieldOf Tryz.prog 27 1 = some (1, { desc := TypeDesc.int .i64, size := 1, bytes := 8, zero := Value.int .i64 0 }) := by kernel_rfl
theorem fw27_2 : fieldOf Tryz.prog 27 2 = some (2, { desc := TypeDesc.slice 128, size := 1, bytes := 24, zero := Value.slice none 0 0 }) := by kernel_rfl
theorem fw128_0 : fieldOf Tryz.prog 128 0 = some (0, { desc := TypeDesc.int .i64, size := 1, bytes := 8, zero := Value.int .i64 0 }) := by kernel_rfl
theorem fw128_1 : fieldOf Tryz.prog 128 1 = some (1, { desc := TypeDesc.int .i64, size := 1, bytes := 8, zero := Value.int .i64 0 }) := by kernel_rfl
theorem fw128_2 : fieldOf Tryz.prog 128 2 = some (2, { desc := TypeDesc.int .i64, size := 1, bytes := 8, zero := Value.int .i64 0 }) := by kernel_rfl
attribute [go_sem high] fw27_0 fw27_1 fw27_2 fw128_0 fw128_1 fw128_2
end Go.AW

namespace Go.AW
open Go Go.Proofs

theorem hget_0 {id v : Nat} {o : AObj} {H : Heap} : hget ((id, v, o) :: H) id = some (v, o) := by simp [hget]

set_option linter.unusedSimpArgs false
end Go.AW

/- The iterators of graphs: leaving. -/
namespace Go.AW
open Go Go.Proofs
set_option linter.unusedVariables false
theorem le_slH {l l' : List (Nat × HV)} {H : Heap} (h : leS l l') : (⟨l, H⟩ : AS).le ⟨l', H⟩ := ⟨leS_get h, fun _ _ h => h⟩
set_option maxRecDepth 100000 in
theorem iy_graph_leaving {g : TLabelsStatesEdges} {s : Int} {L : List (Int × TFromLabelTo)} (h : y_graph_leaving g s = some L) : Yields Tryz.prog 194 [] [HV.fptr [HV.int .i64 g.1, HV.int .i64 g.2.1, slE eFromLabelTo g.2.2] 0, HV.fptr [HV.int .i64 s] 0] (L.map fun x => [HV.int .i64 x.1, HV.agg [HV.int .i64 x.2.1, HV.int .i64 x.2.2.1, HV.int .i64 x.2.2.2]]) := by
  unfold y_graph_leaving at h
  split at h
  · rename_i hm
    cases h
    obtain ⟨gl, gs, es⟩ := g
    dsimp only at hm ⊢
    intro id ver H J Stop K hmn h0 hstep hdone hstop
    refine ACall.of_body Tryz.func194 rfl rfl (Nat.le_of_ble_eq_true rfl) ?_
    unfold Tryz.f194
    dsimp only [enumS, Nat.reduceAdd]
    refine AW.rgs rfl fun K1 hK => ?_
    refine bv rfl (v_fieldAddrF fo27_2 rfl) ?_
    refine bv rfl (v_loadF ty25 rfl (l_lit rfl rfl)) ?_
    refine bv rfl (v_lenF rfl rfl ty25 rfl) ?_
    refine mv rfl rfl ?_
    refine b_nil (hK _ (AW.to (to_le (s' := ⟨[(0, .yl id ver), (2, HV.fptr [HV.int .i64 s] 0), (7, slE eFromLabelTo es), (8, .int .i64 (es.length : Int)), (9, .int .i64 ((0 : Nat) : Int))], H⟩) (le_slH ⟨rfl, rfl, rfl, rfl, rfl, trivial⟩) ?_)))
    clear hK K1
    refine AW.block ?_
    refine AW.loopS (fun p : Nat × Heap => ⟨[(0, .yl id ver), (2, HV.fptr [HV.int .i64 s] 0), (7, slE eFromLabelTo es), (8, .int .i64 (es.length : Int)), (9, .int .i64 (p.1 : Int))], p.2⟩)
      (fun p => p.1 ≤ es.length ∧ J (leaveL (es.take p.1) s).length p.2) (fun p => es.length - p.1) (0, H) (AS.le_refl _) ⟨Nat.zero_le _, h0⟩ ?_
    rintro ⟨i, H1⟩ ⟨hi, hj⟩
    dsimp only at hi hj ⊢
    refine AW.rgs rfl fun K1 hK => ?_
    refine bv rfl (v_bin rfl rfl b_lss) ?_
    refine b_nil (hK _ ?_)
    clear hK K1
    refine AW.cseq rfl (fun hc => ?_) (fun hc => ?_)
    · have hi' : i < es.length := by have := of_decide_eq_true hc; omega
      have hx : idx es (i : Int) = some es[i] := ix hi'
      obtain ⟨f, hf⟩ := fresh_id H1 5
      refine AW.skip ?_
      refine AW.seq (AW.block ?_)
      refine AW.rgs rfl fun K1 hK => ?_
      refine mv rfl rfl ?_
      refine bv rfl (v_idxF ty25 es25 rfl rfl (idx_lt hx)) ?_
      refine bv rfl (v_loadF ty128 rfl (l_agg eFromLabelTo hx rfl rfl)) ?_
      refine b_op rfl (o_alloc (fid := f) (zs := [HV.int .i64 0, HV.int .i64 0, HV.int .i64 0]) (f * 1000 + 5) rfl rfl ty128 rfl (fun ov => ?_))
      refine mv rfl rfl ?_
      refine b_op rfl (o_store (cs := cFromLabelTo es[i]) (zs := cFromLabelTo es[i]) rfl rfl rfl ty128 rfl hget_0 rfl rfl rfl ?_)
      refine b_nil (hK _ (AW.to (to_le (s' := ⟨[(0, .yl id ver), (2, HV.fptr [HV.int .i64 s] 0), (4, .int .i64 (i : Int)), (5, .ptr (f * 1000 + 5) ov 0), (7, slE eFromLabelTo es), (8, .int .i64 (es.length : Int)), (9, .int .i64 (i : Int))], (f * 1000 + 5, ov, .arr 3 128 (cFromLabelTo es[i])) :: H1⟩) ⟨leS_get ⟨rfl, rfl, rfl, rfl, rfl, rfl, rfl, trivial⟩, fun j x hx => ?_⟩ ?_)))
      · simp only [hget] at hx ⊢
        split <;> rename_i hij
        · rw [if_pos hij] at hx; exact hx
        · first | exact hx | (rw [if_neg hij] at hx; first | exact hx | (rw [if_neg hij]; exact hx)) | (rw [if_neg hij]; exact hx)
      clear hK K1
      have hJ1 := hmn _ _ _ hj (cons_le (ver := ov) (ob := .arr 3 128 (cFromLabelTo es[i])) hf)
      refine AW.rgs rfl fun K1 hK => ?_
      refine bv rfl (v_fieldAddrP fo128_0 rfl hget_0) ?_
      refine bv rfl (v_loadP ty3 rfl hget_0 (l_lit rfl rfl)) ?_
      refine bv rfl (v_loadF ty3 rfl (l_lit rfl rfl)) ?_
      refine bv rfl (v_bin rfl rfl b_eql) ?_
      refine mv rfl rfl ?_
      have htk := leaveL_take es s hi'
      by_cases hs : es[i].1 = s
      · rw [if_pos hs] at htk
        obtain ⟨rest, hr⟩ := leaveL_split es s (i + 1)
        rw [htk] at hr
        refine b_T rfl rfl rfl rfl (decide_eq_true hs) (o_val rfl (mv_val rfl rfl).2 ?_)
        refine b_T rfl rfl rfl rfl rfl (o_val rfl (mv_val rfl rfl).2 ?_)
        refine b_T rfl rfl rfl rfl rfl (o_val rfl (v_loadP ty128 rfl hget_0 (l_litA (ds := cFromLabelTo es[i]) rfl (Nat.le_of_ble_eq_true rfl) rfl)) ?_)
        refine b_T rfl rfl rfl rfl rfl (o_yield (hs := [HV.int .i64 (i : Int), HV.agg (cFromLabelTo es[i])]) rfl rfl rfl ?_)
        refine (hstep (leaveL (es.take i) s).length [HV.int .i64 (i : Int), HV.agg (cFromLabelTo es[i])] _ ?_ hJ1).mono ?_
        · rw [List.getElem?_map, hr, List.append_assoc, List.getElem?_append_right (Nat.le_refl _), Nat.sub_self]
          rfl
        rintro r H2 ⟨b, rfl, h3, h4⟩
        refine b_T rfl rfl rfl rfl rfl (o_val rfl (v_not rfl) ?_)
        refine bv rfl (v_pickT rfl rfl rfl) ?_
        refine b_nil (hK _ (AW.to (to_le (s' := ⟨[(0, .yl id ver), (2, HV.fptr [HV.int .i64 s] 0), (7, slE eFromLabelTo es), (8, .int .i64 (es.length : Int)), (9, .int .i64 (i : Int)), (24, .bool (!b))], H2⟩) (le_slH ⟨rfl, rfl, rfl, rfl, rfl, rfl, trivial⟩) ?_)))
        clear hK K1
        refine AW.cond rfl (fun hc => ?_) (fun hc => ?_)
        · have hb : b = false := by simpa using hc
          refine AW.ret ⟨.inr rfl, ?_⟩
          simp only [go_sem, reduceIte, Nat.reduceEqDiff]
          exact ⟨_, _, Conv.refl _ _, hstop _ (h4 hb)⟩
        · have hb : b = true := by simpa using hc
          refine AW.skip ?_
          refine AW.region (fid := f) (mt := []) [0, 2, 7, 8, 9] rfl fun K hK => ?_
          simp only [go_sem, reduceIte, Nat.reduceEqDiff, Int.reduceLE]
          refine hK _ ?_
          clear hK K
          refine ⟨(i + 1, H2), ⟨by dsimp only; omega, ?_⟩, by dsimp only; omega, ?_⟩
          · dsimp only
            rw [htk, List.length_append]
            exact h3 hb
          · dsimp only
            rw [cnt_next hm hi']
            exact AS.le_refl _
      · rw [if_neg hs, List.append_nil] at htk
        refine b_F rfl rfl rfl rfl rfl (decide_eq_false hs) ?_
        refine b_F rfl rfl rfl rfl rfl rfl ?_
        refine b_F rfl rfl rfl rfl rfl rfl ?_
        refine b_F rfl rfl rfl rfl rfl rfl ?_
        refine b_F rfl rfl rfl rfl rfl rfl ?_
        refine bv rfl (v_pickF rfl rfl rfl) ?_
        refine b_nil (hK _ (AW.to (to_le (s' := ⟨[(0, .yl id ver), (2, HV.fptr [HV.int .i64 s] 0), (7, slE eFromLabelTo es), (8, .int .i64 (es.length : Int)), (9, .int .i64 (i : Int)), (24, .bool false)], _⟩) (le_slH ⟨rfl, rfl, rfl, rfl, rfl, rfl, trivial⟩) ?_)))
        clear hK K1
        refine AW.cond rfl (fun hc => by cases hc) (fun _ => ?_)
        refine AW.skip ?_
        refine AW.region (fid := f) (mt := []) [0, 2, 7, 8, 9] rfl fun K hK => ?_
        simp only [go_sem, reduceIte, Nat.reduceEqDiff, Int.reduceLE]
        refine hK _ ?_
        clear hK K
        refine ⟨(i + 1, (f * 1000 + 5, ov, .arr 3 128 (cFromLabelTo es[i])) :: H1), ⟨by dsimp only; omega, ?_⟩, by dsimp only; omega, ?_⟩
        · dsimp only
          rw [htk]
          exact hJ1
        · dsimp only
          rw [cnt_next hm hi']
          exact AS.le_refl _
    · have hi2 : es.length ≤ i := by have := of_decide_eq_false hc; omega
      have hie : i = es.length := by omega
      subst hie
      rw [List.take_length] at hj
      refine AW.exit ?_
      refine ⟨.inl rfl, ?_⟩
      simp only [go_sem, reduceIte, Nat.reduceEqDiff]
      exact ⟨_, _, Conv.refl _ _, hdone _ (by rw [List.length_map]; exact hj)⟩
  · cases h
end Go.AW

/- Regions that draw their order, with one operation that may be done late. -/
namespace Go.AW
open Go

section
variable {P : Program} {ro : Option Nat} {N : Nat} {s : AS}

def AnyAtZ (P : Program) (ro : Option Nat) (N : Nat) (ops : Array Oper) (Q : Exit → AS → Prop) (q z : Nat) (s : AS) : Prop :=
  ∀ (w0 : World) (μ0 : Mu) (fuel : Nat) (listed : Array Bool) (μ1 : Mu) (a1 : Act) (w1 : World) (s1 : AS), listed.size = ops.size → cnt listed ≤ fuel → (∀ i, i < ops.size → i ≠ z → listed.getD i false = decide (i < q)) →
    s1.heap = s.heap → (∀ t, dstOf ops z ≠ some t → sget s1.slots t = sget s.slots t) → (listed.getD z false = true → ∀ t, sget s1.slots t = sget s.slots t) →
    SRel ro N w0.heap.size μ1 s1 a1 w1 → Evo w0 μ0 w1 μ1 → wpAnyIn (fence ro) 0 P .any ops (Post ro N Q w0 μ0) fuel listed a1 w1

theorem AnyAtZ.op {ops : Array Oper} {Q : Exit → AS → Prop} {q z : Nat} {t : AS} (hda : daOk ops = true) (hq : q < ops.size) (hzq : z < q) (hw : waitOk ops q (q + 1) = true) (hwz : ∀ i, q < i → i < ops.size → z ∈ clos ops i) (hno : ∀ k, k ≤ q → k ≠ z → ¬ z ∈ da ops k)
    (hz0 : ∀ s1 : AS, s1.heap = s.heap → (∀ u, dstOf ops z ≠ some u → sget s1.slots u = sget s.slots u) → AOpI P ro N ops z (fun s2 => s2.heap = s.heap ∧ ∀ u, sget s2.slots u = sget s.slots u) s1)
    (hz1 : ∀ s1 : AS, s1.heap = t.heap → (∀ u, dstOf ops z ≠ some u → sget s1.slots u = sget t.slots u) → AOpI P ro N ops z (fun s2 => s2.heap = t.heap ∧ ∀ u, sget s2.slots u = sget t.slots u) s1)
    (hop : ∀ s1 : AS, s1.heap = s.heap → (∀ u, dstOf ops z ≠ some u → sget s1.slots u = sget s.slots u) → AOpI P ro N ops q (fun s2 => s2.heap = t.heap ∧ (∀ u, dstOf ops z ≠ some u → sget s2.slots u = sget t.slots u) ∧ ((∀ u, sget s1.slots u = sget s.slots u) → ∀ u, sget s2.slots u = sget t.slots u)) s1)
    (h : AnyAt P ro N ops Q (q + 1) t) : AnyAtZ P ro N ops Q q z s := by
  intro w0 μ0 fuel listed μ1 a1 w1 s1 hl hc hlist hh hsl hall hs hE
  have hda' := daOk_spec hda
  -- when z is done
  have done : ∀ (fuel : Nat) (listed : Array Bool) (μ1 : Mu) (a1 : Act) (w1 : World) (s1 : AS), listed.size = ops.size → cnt listed ≤ fuel → (∀ i, i < ops.size → listed.getD i false = decide (i < q)) → s1.heap = s.heap → (∀ u, sget s1.slots u = sget s.slots u) →
      SRel ro N w0.heap.size μ1 s1 a1 w1 → Evo w0 μ0 w1 μ1 → wpAnyIn (fence ro) 0 P .any ops (Post ro N Q w0 μ0) fuel listed a1 w1 := by
    intro fuel listed μ1 a1 w1 s1 hl hc hlist hh hsl hs hE
    refine AnyAt.op (s := s1) hda hq hw ?_ w0 μ0 fuel listed μ1 a1 w1 hl hc hlist hs hE
    have hk := hop s1 hh (fun u _ => hsl u)
    intro w0 μ0 μ a w next Q' hs hE hK
    refine hk w0 μ0 μ a w next Q' hs hE fun μ2 s2 a2 w2 hk2 hs2 hE2 => hK μ2 s2 a2 w2 ?_ hs2 hE2
    intro w3 μ3 fuel3 listed3 μ4 a4 w4 h1 h2 h3 h4 h5
    exact h w3 μ3 fuel3 listed3 μ4 a4 w4 h1 h2 h3 (h4.eqv ⟨hk2.1.symm, fun u => (hk2.2.2 hsl u).symm⟩) h5
  by_cases hlz : listed.getD z false = true
  · refine done fuel listed μ1 a1 w1 s1 hl hc (fun i hi => ?_) hh (hall hlz) hs hE
    by_cases e : i = z
    · rw [e, hlz]; simp [hzq]
    · exact hlist i hi e
  · have hzf : listed.getD z false = false := by simpa using hlz
    have hqn : listed.getD q false = false := by rw [hlist q hq (by omega)]; simp
    cases fuel with
    | zero =>
      have := cnt_pos (listed := listed) (i := q) (by rw [getD_tf (by omega)]; exact hqn)
      omega
    | succ fuel =>
      refine ⟨fun hr => ?_, fun i hi => ?_⟩
      · exfalso
        have := ready_of hda' hl (by omega : z < ops.size) hzf fun k hk => by rw [hlist k (by omega) (by omega)]; simp; omega
        rw [hr] at this
        cases this
      · have hdone := deps_done hi
        obtain ⟨h0, o, ho, _⟩ := mem_ready.1 hi
        have his := (Array.getElem?_eq_some_iff.1 ho).1
        by_cases hiz : i = z
        · subst hiz
          refine hz0 s1 hh hsl w0 μ0 μ1 a1 w1 _ _ hs hE fun μ2 s2 a2 w2 hk hs2 hE2 => done fuel _ μ2 a2 w2 s2 (by simp [hl]) ?_ (fun k hk => ?_) hk.1 hk.2 hs2 hE2
          · have := cnt_set (listed := listed) (i := i) h0
            omega
          · by_cases hki : i = k
            · subst hki
              have : i < listed.size := by omega
              simp [this, hzq]
            · rw [getD_set_ne false hki, hlist k hk (fun e => hki e.symm)]
        · rw [getD_tf (by omega), hlist i his hiz] at h0
          have hqi : q ≤ i := by simpa using h0
          have hiq : i = q := by
            rcases Nat.lt_or_ge q i with hlt | hge
            · exfalso
              have hc := waitOk_spec hw i hlt his q (Nat.le_refl _) (Nat.lt_succ_self _)
              have := clos_ind (fun k => k < q) (fun k hk => by
                have hd := hdone k hk
                by_cases e : k = z
                · omega
                · rw [hlist k (Nat.lt_trans (hda' i his k hk) his) e] at hd
                  simpa using hd) (fun k hki hkq m hm => Nat.lt_trans (hda' k (by omega) m hm) hkq) q hc
              omega
            · omega
          subst hiq
          refine hop s1 hh hsl w0 μ0 μ1 a1 w1 _ _ hs hE fun μ2 s2 a2 w2 hk hs2 hE2 => ?_
          -- now z alone is ready
          have hl2 : (listed.setIfInBounds i true).size = ops.size := by simp [hl]
          have hc2 := cnt_set (listed := listed) (i := i) (by rw [getD_tf (by omega)]; exact hqn)
          have hz2 : (listed.setIfInBounds i true).getD z false = false := by rw [getD_set_ne false hiz]; exact hzf
          have hlist2 : ∀ k, k < ops.size → k ≠ z → (listed.setIfInBounds i true).getD k false = decide (k < i + 1) := fun k hk hkz => by
            by_cases hki : i = k
            · subst hki
              have : i < listed.size := by omega
              simp [this]
            · rw [getD_set_ne false hki, hlist k hk hkz]
              congr 1
              apply propext
              omega
          cases fuel with
          | zero =>
            have := cnt_pos (listed := listed.setIfInBounds i true) (i := z) (by rw [getD_tf (by omega)]; exact hz2)
            omega
          | succ fuel =>
            refine ⟨fun hr => ?_, fun j hj => ?_⟩
            · exfalso
              have := ready_of hda' hl2 (by omega : z < ops.size) hz2 fun k hk => by rw [hlist2 k (by omega) (by omega)]; simp; omega
              rw [hr] at this
              cases this
            · have hdone2 := deps_done hj
              obtain ⟨h02, o2, ho2, _⟩ := mem_ready.1 hj
              have hjs := (Array.getElem?_eq_some_iff.1 ho2).1
              have hjz : j = z := by
                apply Classical.byContradiction
                intro hjz
                rw [getD_tf (by omega), hlist2 j hjs hjz] at h02
                have hij : i + 1 ≤ j := by simpa using h02
                have hcz := hwz j (by omega) hjs
                have := clos_ind (fun k => k ≠ z ∧ k < i + 1) (fun k hk => by
                  have hd := hdone2 k hk
                  have hkz : k ≠ z := fun e => by rw [e, hz2] at hd; cases hd
                  rw [hlist2 k (Nat.lt_trans (hda' j hjs k hk) hjs) hkz] at hd
                  exact ⟨hkz, by simpa using hd⟩) (fun k hkj hkz m hm => ?_) z hcz
                · exact this.1 rfl
                · have hmk := hda' k (by omega) m hm
                  refine ⟨fun e => ?_, by omega⟩
                  -- an operation that is done waits on z: it would not be done
                  exact absurd e (by intro e; exact hno k (by omega) hkz.1 (by rw [← e]; exact hm))
              subst hjz
              refine hz1 s2 hk.1 hk.2.1 w0 μ0 μ2 a2 w2 _ _ hs2 hE2 fun μ3 s3 a3 w3 hk3 hs3 hE3 => h w0 μ0 fuel _ μ3 a3 w3 (by simp [hl]) ?_ (fun k hk => ?_) (hs3.eqv ⟨hk3.1.symm, fun u => (hk3.2 u).symm⟩) hE3
              · have := cnt_set (listed := listed.setIfInBounds i true) (i := j) h02
                omega
              · by_cases hkj : j = k
                · subst hkj
                  have : j < (listed.setIfInBounds i true).size := by omega
                  simp only [Array.getD_eq_getD_getElem?]
                  rw [Array.getElem?_setIfInBounds_self_of_lt this]
                  simp; omega
                · rw [getD_set_ne false hkj, hlist2 k hk (fun e => hkj e.symm)]
end
end Go.AW

/- copy in lockstep; a region with an operation that may be done late. -/
namespace Go.AW
open Go
section
variable {P : Program} {ro : Option Nat} {N : Nat} {s : AS} {ops : Array Oper} {o : Oper} {sl : List (Nat × HV)} {H : Heap} {all : Array Oper} {rest : List Oper} {K : AS → Prop}

theorem AnyAtZ.eqc {Q : Exit → AS → Prop} {q z : Nat} : Eqc (AnyAtZ P ro N ops Q q z) := fun _ _ he h w0 μ0 fuel listed μ1 a1 w1 s1 h1 h2 h3 h4 h5 h6 h7 h8 =>
  h w0 μ0 fuel listed μ1 a1 w1 s1 h1 h2 h3 (h4.trans he.1.symm) (fun t ht => (h5 t ht).trans (he.2 t).symm) (fun hl t => (h6 hl t).trans (he.2 t).symm) h7 h8
end
end Go.AW

/- strings.Builder: the check for copies. -/
namespace Go.Proofs
open Go

theorem Tryz.bld_lies (n : Nat) (hn : 2 ≤ n) : liesAt Tryz.prog Tryz.prog.depth 80 (n / Tryz.prog.cellsOf 80) 0 80 1 = true := by
  have hc : Tryz.prog.cellsOf 80 = 2 := by kernel_rfl
  have hd : Tryz.prog.depth = (2 * (Tryz.prog.types.size + Made.depth) + 1) + 1 := rfl
  rw [hd]
  simp only [liesAt, Bool.or_eq_true]
  left
  rw [hd]
  have : 1 ≤ n / 2 := by omega
  simp [rowAt, hc, sameLayout, this]

set_option maxHeartbeats 1000000 in
set_option maxRecDepth 100000 in
theorem Tryz.copyCheck_fresh (b n : Nat) (w : World) (h0 : w.cell? ⟨b, 0, none⟩ = some (.pointer none)) (hsh : w.shape? b = some (80, n)) (hn : 2 ≤ n) (hfz : w.frozen? ⟨b, 0, none⟩ = false) :
    Calls Tryz.prog 107 #[.pointer (some ⟨b, 0, none⟩)] w fun e w' => e = .returned (.tuple #[]) ∧ w' = w.setCell ⟨b, 0, none⟩ (.pointer (some ⟨b, 0, none⟩)) := by
  obtain ⟨j, hj, hjs⟩ := Option.map_eq_some_iff.1 (show (Tryz.prog.info? 80).map (·.size) = some 2 by kernel_rfl)
  have hlies := Tryz.bld_lies n hn
  go_enter Tryz.func107, Tryz.ntmps107
  go_wp2
  rw [Lib.run_to_unsafe w ⟨b, 0, none⟩ Tryz.underlying78 Tryz.underlying166 hj (by rw [hjs]; decide) hsh (by show 0 < n; omega)]
  simp only [Result.andThen]
  rw [Oper.upon_value]
  go_wp2
  rw [run_callFunc_extern Tryz.func157 (by kernel_rfl) (by kernel_rfl) (by kernel_rfl) (e := Extern.AbiNoEscape.same) (by kernel_rfl), Lib.run_noEscape]
  simp only [Result.andThen]
  rw [Oper.upon_value]
  go_wp2
  rw [Lib.run_from_unsafe w ⟨b, 0, none⟩ Tryz.underlying166 Tryz.underlying78 hj hsh hlies]
  simp only [Result.andThen]
  rw [Oper.upon_value]
  go_wp2
  go_end0
  exact ⟨rfl, rfl⟩

set_option maxHeartbeats 1000000 in
set_option maxRecDepth 100000 in
theorem Tryz.copyCheck_used (b : Nat) (w : World) (h0 : w.cell? ⟨b, 0, none⟩ = some (.pointer (some ⟨b, 0, none⟩))) :
    Calls Tryz.prog 107 #[.pointer (some ⟨b, 0, none⟩)] w fun e w' => e = .returned (.tuple #[]) ∧ w' = w := by
  obtain ⟨j, hj, _⟩ := Option.map_eq_some_iff.1 (show (Tryz.prog.info? 80).map (·.size) = some 2 by kernel_rfl)
  go_enter Tryz.func107, Tryz.ntmps107
  go_wp2
  rw [Lib.run_neq_ptr_same w _ Tryz.underlying78 hj]
  go_wp2
  go_end0
  exact ⟨rfl, rfl⟩
end Go.Proofs

namespace Go.AW
open Go Go.Proofs Go.Lib

def bldP (u : Bool) (id ver : Nat) : HV := if u then .ptr id ver 0 else .v (.pointer none)

theorem c_copyCheck {H : Heap} {K : HV → Heap → Prop} {id ver : Nat} {u : Bool} {s : HV} (hg : hget H id = some (ver, .arr 2 80 [bldP u id ver, s])) (hK : K (.tup []) ((id, ver, .arr 2 80 [.ptr id ver 0, s]) :: H)) :
    ACall Tryz.prog 107 [.ptr id ver 0] H K := by
  refine ⟨enters' Tryz.func107 rfl rfl, fun μ w vs hs hr => ?_⟩
  obtain ⟨x, xs, rfl, hr, hn⟩ := hr
  cases hn
  obtain ⟨lo, hl, hor⟩ := hs.has _ _ _ hg
  have hle : ∀ ob j (y : Nat × AObj), hget ((id, ver, ob) :: H) j = some y ↔ hget (hset H id ver ob) j = some y := fun ob j y => by simp only [hget, hget_hset]
  rcases hr with ⟨b, hl', rfl⟩ | ⟨hd, _⟩
  · rw [hl] at hl'
    cases hl'
    obtain ⟨h1, cur, vs', rest, hrow, hcl, hrl⟩ := hor
    obtain ⟨v0, vs1, rfl, r0, v1, vs2, rfl, r1, hn⟩ := hrl
    cases hn
    have hrow2 := hrow
    obtain ⟨lo', hi', hbk, hfr⟩ := hrow2
    have hsz : 2 ≤ cur.size := by rw [← Array.length_toList, hcl]; simp
    have hc0 : cur[0]? = some v0 := by rw [← Array.getElem?_toList, hcl]; rfl
    have hcell : w.cell? ⟨b, 0, none⟩ = some v0 := by rw [Lib.cell_of_heap hbk]; exact hc0
    cases u with
    | false =>
      obtain rfl : v0 = .pointer none := r0
      refine (Tryz.copyCheck_fresh b cur.size w hcell (by simp [World.shape?, hbk]) hsz (hrow.free (by omega))).mono ?_
      rintro e w' ⟨rfl, rfl⟩
      have hbk' : (w.setCell ⟨b, 0, none⟩ (.pointer (some ⟨b, 0, none⟩))).heap[b]? = some (.cells (cur.setIfInBounds 0 (.pointer (some ⟨b, 0, none⟩))) 80 (lo', hi')) := by
        show (w.heap.modify b _)[b]? = _
        rw [Array.getElem?_modify, if_pos rfl, hbk]
        rfl
      obtain ⟨hsr, hE⟩ := hs.updArr (w' := w.setCell ⟨b, 0, none⟩ (.pointer (some ⟨b, 0, none⟩))) (cs' := [.ptr id ver 0, s]) hg hl ⟨rfl, rfl, rfl⟩ (by show (w.heap.modify b _).size = _; simp) (fun b' hne => by
        show (w.heap.modify b _)[b']? = _
        rw [Array.getElem?_modify, if_neg (fun e => hne e.symm)]) hrow ⟨lo', hi', hbk', by simpa using hfr⟩ (by simp) fun E => by
          refine ⟨fun c hc => ?_, _, [.pointer (some ⟨b, 0, none⟩), v1], rest, ⟨lo', hi', hbk', by simpa using hfr⟩, ?_, ?_⟩
          · rcases List.mem_cons.1 hc with rfl | hc
            · rfl
            · exact h1 c (List.mem_cons_of_mem _ hc)
          · rw [Array.toList_setIfInBounds, hcl]; rfl
          · exact ⟨_, _, rfl, .inl ⟨b, hl, rfl⟩, _, _, rfl, Rep.evo E hs.ok _ _ r1, rfl⟩
      exact ⟨_, .tup [], _, μ, rfl, hK, hsr.le (hle _), ⟨[], rfl, rfl⟩, hE⟩
    | true =>
      rcases r0 with ⟨b', hl2, rfl⟩ | ⟨hd, _⟩
      · rw [hl] at hl2
        cases hl2
        refine (Tryz.copyCheck_used b w hcell).mono ?_
        rintro e w' ⟨rfl, rfl⟩
        exact ⟨_, .tup [], _, μ, rfl, hK, (hs.same hg).le (hle _), ⟨[], rfl, rfl⟩, Evo.refl _ _⟩
      · exact absurd hl (hd.2 _)
  · exact absurd hl (hd.2 _)
end Go.AW

/- Bytes in owned arrays: append of a text. -/
namespace Go.AW
open Go
abbrev eByte : EncL UInt8 := encM fun b => HV.int .u8 (b.toNat : Int)
section
variable {P : Program} {ro : Option Nat} {N : Nat} {s : AS} {o : Oper} {sl : List (Nat × HV)} {H : Heap} {all : Array Oper} {rest : List Oper} {K : AS → Prop}
theorem o_appS {d : Nat} {t xt e : TypeId} {a b a2 b2 : Nat} {z z2 : Value} {aa : Array Operand} {ts : Array TypeId} {x y : Operand} {Te : TyI} {l m : List UInt8} {id ver : Nat} (h0 : (o.dst, o.op) = (some d, .call ⟨.builtin .append, aa, ts⟩)) (ha : (aa.toList, ts.toList) = ([x, y], [t, xt])) (hT : ty P t = some ⟨.slice e, a, b, z⟩) (hxt : ty P xt = some ⟨.string, a2, b2, z2⟩) (hTe : ty P e = some Te)
    (hx : s.ev x = some (.ar id ver eByte.k 0 l.length)) (hg : hget s.heap id = some (ver, .arr eByte.k e (eByte.E l))) (hy : s.ev y = some (.str m)) (hk : Te.size = 1) (hz : (zcells Te.zero).any (fun zs => zs.length == Te.size) = true) (h : fits Te.bytes (l.length + m.length))
    (k : ∀ ver', bops P ro N all rest K ⟨(d, .ar id ver' eByte.k 0 (l ++ m).length) :: s.slots, (id, ver', .arr eByte.k e (eByte.E (l ++ m))) :: s.heap⟩) : aop P 0 [] o (fun s' => bops P ro N all rest K s') s := by
  obtain ⟨h3, h4⟩ := Prod.mk.inj h0
  obtain ⟨h5, h6⟩ := Prod.mk.inj ha
  have ek : eByte.k = 1 := rfl
  refine op_append (n := l.length) (m := m.length) (cs := eByte.E l) (ds := eByte.E m) h4 h5 h6 hT hx hy hTe hz ?_ ?_ h ?_
  · simp only [abase, hg]
    refine ⟨trivial, hk.symm, trivial, trivial, ?_, trivial, ?_⟩
    · rw [hk, eByte.len]; exact Nat.le_refl _
    · rw [hk]
      show (eByte.E l).take (l.length * eByte.k) = _
      rw [eByte.take, List.take_length]
  · simp only [asrc, hxt]
    exact ⟨hk, trivial, rfl⟩
  · intro ver'
    have e1 : baseId (.ar id ver eByte.k 0 l.length) (cid 0 o.dst) = id := rfl
    have e2 : eByte.E l ++ eByte.E m = eByte.E (l ++ m) := (eByte.append l m).symm
    rw [e1, h3, hk, e2]
    have e3 : (l ++ m).length = l.length + m.length := List.length_append
    have := k ver'
    rw [e3] at this
    exact bops_le (putH_le id ver' _ d _) this
end
end Go.AW

/- strings.Builder: writing. -/
namespace Go.AW
open Go Go.Proofs

def bldO (id ver aid aver : Nat) (u : Bool) (l : List UInt8) : AObj := .arr 2 80 [bldP u id ver, .ar aid aver 1 0 l.length]
def bytO (l : List UInt8) : AObj := .arr 1 5 (eByte.E l)

theorem hget_1 {id v j w : Nat} {o p : AObj} {H : Heap} (h : j ≠ id) (hj : hget H j = some (w, p)) : hget ((id, v, o) :: H) j = some (w, p) := by
  simp only [hget]
  rw [if_neg (by omega)]
  exact hj

end Go.AW

/- strings.Builder: the text. -/
namespace Go.Proofs
open Go

def But (g : Nat) (w w' : World) : Prop := Go.AW.Same w w' ∧ w.heap.size ≤ w'.heap.size ∧ ∀ k, k < w.heap.size → k ≠ g → w'.heap[k]? = w.heap[k]?

set_option maxHeartbeats 2000000 in
set_option maxRecDepth 100000 in
theorem Tryz.bldS_nil (b g : Nat) (w : World) (c0 : w.cell? ⟨b, 1, none⟩ = some (.slice none 0 0)) :
    Calls Tryz.prog 59 #[.pointer (some ⟨b, 0, none⟩)] w fun e w' => e = .returned (.string ⟨#[]⟩) ∧ But g w w' := by
  have hUS : ∀ (W : World) (q : Option Addr), (Builtin.unsafeString_ #[134, 3] 9 #[.pointer q, .int .i64 0]).run Tryz.prog W = .ok (.string .empty) W := fun W q => Lib.run_unsafeString_none W _ _ _ q
  have c1 : w.drew.cell? ⟨b, 1, none⟩ = some (.slice none 0 0) := c0
  have hSD : (Builtin.unsafeSliceData_ #[28] 134 #[.slice none 0 0]).run Tryz.prog w.drew = .ok (.pointer none) w.drew := rfl
  have mixed : Tryz.prog.follows .mixedOrders = true := by kernel_rfl
  go_enter Tryz.func59, Tryz.ntmps59
  go_wp2
  go_region_o
  all_goals (go_wp2; go_ret; exact ⟨rfl, ⟨rfl, rfl, rfl⟩, Nat.le_refl _, fun _ _ _ => rfl⟩)

set_option maxHeartbeats 2000000 in
set_option maxRecDepth 100000 in
theorem Tryz.bldS_room (b g cap : Nat) (w : World) (hc0 : cap ≠ 0) (c0 : w.cell? ⟨b, 1, none⟩ = some (.slice (some ⟨g, 0, none⟩) 0 cap)) :
    Calls Tryz.prog 59 #[.pointer (some ⟨b, 0, none⟩)] w fun e w' => e = .returned (.string ⟨#[]⟩) ∧ But g w w' := by
  have hUS : ∀ (W : World) (q : Option Addr), (Builtin.unsafeString_ #[134, 3] 9 #[.pointer q, .int .i64 0]).run Tryz.prog W = .ok (.string .empty) W := fun W q => Lib.run_unsafeString_none W _ _ _ q
  have c1 : w.drew.cell? ⟨b, 1, none⟩ = some (.slice (some ⟨g, 0, none⟩) 0 cap) := c0
  have hSD : (Builtin.unsafeSliceData_ #[28] 134 #[.slice (some ⟨g, 0, none⟩) 0 cap]).run Tryz.prog w.drew = .ok (.pointer (some ⟨g, 0, none⟩)) w.drew := Lib.run_unsafeSliceData_row _ _ _ _ _ _ hc0
  clear hc0
  have mixed : Tryz.prog.follows .mixedOrders = true := by kernel_rfl
  go_enter Tryz.func59, Tryz.ntmps59
  go_wp2
  go_region_o
  all_goals (go_wp2; go_ret; exact ⟨rfl, ⟨rfl, rfl, rfl⟩, Nat.le_refl _, fun _ _ _ => rfl⟩)

set_option maxHeartbeats 2000000 in
set_option maxRecDepth 100000 in
theorem Tryz.bldS_noroom (b g : Nat) (cur : Array Value) (fr : Nat × Nat) (w : World) (hlt : b < w.heap.size) (c0 : w.cell? ⟨b, 1, none⟩ = some (.slice (some ⟨g, 0, none⟩) 0 0)) (hg : w.heap[g]? = some (.cells cur 5 fr)) :
    Calls Tryz.prog 59 #[.pointer (some ⟨b, 0, none⟩)] w fun e w' => e = .returned (.string ⟨#[]⟩) ∧ But g w w' := by
  have hUS : ∀ (W : World) (q : Option Addr), (Builtin.unsafeString_ #[134, 3] 9 #[.pointer q, .int .i64 0]).run Tryz.prog W = .ok (.string .empty) W := fun W q => Lib.run_unsafeString_none W _ _ _ q
  have c1 : w.drew.cell? ⟨b, 1, none⟩ = some (.slice (some ⟨g, 0, none⟩) 0 0) := c0
  have hSD : (Builtin.unsafeSliceData_ #[28] 134 #[.slice (some ⟨g, 0, none⟩) 0 0]).run Tryz.prog w.drew = .ok (.pointer (some ⟨w.drew.heap.size, 0, none⟩)) (w.drew.alloc (.view ⟨g, 0, none⟩ 5)) :=
    Lib.run_unsafeSliceData_zero w.drew _ _ 5 Tryz.underlying134 ⟨g, 0, none⟩ 0 (5, cur.size) (by have hg' : w.drew.heap[g]? = some (.cells cur 5 fr) := hg; simp [World.shape?, hg'])
  have c2 : (w.drew.alloc (.view ⟨g, 0, none⟩ 5)).cell? ⟨b, 1, none⟩ = some (.slice (some ⟨g, 0, none⟩) 0 0) := by
    have e : (w.drew.alloc (.view ⟨g, 0, none⟩ 5)).heap[b]? = w.heap[b]? := Lib.alloc_old w.drew _ b hlt
    have h1 : (w.drew.alloc (.view ⟨g, 0, none⟩ 5)).cell? ⟨b, 1, none⟩ = w.cell? ⟨b, 1, none⟩ := by simp only [World.cell?, e]
    rw [h1]; exact c0
  have c3 : (w.alloc (.view ⟨g, 0, none⟩ 5)).drew.cell? ⟨b, 1, none⟩ = some (.slice (some ⟨g, 0, none⟩) 0 0) := c2
  have mixed : Tryz.prog.follows .mixedOrders = true := by kernel_rfl
  go_enter Tryz.func59, Tryz.ntmps59
  go_wp2
  go_region_o
  all_goals (go_wp2; go_ret; exact ⟨rfl, ⟨rfl, rfl, rfl⟩, by show w.heap.size ≤ (w.heap.push _).size; rw [Array.size_push]; omega, fun k hk _ => Lib.alloc_old w.drew _ k hk⟩)

set_option maxHeartbeats 2000000 in
set_option maxRecDepth 100000 in
theorem Tryz.bldS_some (b g cap : Nat) (cur : Array Value) (fr : Nat × Nat) (l : List UInt8) (w : World) (h0 : l ≠ []) (c0 : w.cell? ⟨b, 1, none⟩ = some (.slice (some ⟨g, 0, none⟩) l.length cap)) (hg : w.heap[g]? = some (.cells cur 5 fr)) (hcap : l.length ≤ cap) (hsz : cur.size = cap) (hcm : cap ≤ maxLen)
    (hcell : ∀ (j : Nat) (x : UInt8), l[j]? = some x → cur[j]? = some (.int .u8 x.toNat)) :
    Calls Tryz.prog 59 #[.pointer (some ⟨b, 0, none⟩)] w fun e w' => e = .returned (.string ⟨l.toArray⟩) ∧ But g w w' := by
  have hl0 : l.length ≠ 0 := by simpa using h0
  have c1 : w.drew.cell? ⟨b, 1, none⟩ = some (.slice (some ⟨g, 0, none⟩) l.length cap) := c0
  have hSD : (Builtin.unsafeSliceData_ #[28] 134 #[.slice (some ⟨g, 0, none⟩) l.length cap]).run Tryz.prog w.drew = .ok (.pointer (some ⟨g, 0, none⟩)) w.drew := Lib.run_unsafeSliceData_row _ _ _ _ _ _ (by omega)
  have hUS : (Builtin.unsafeString_ #[134, 3] 9 #[.pointer (some ⟨g, 0, none⟩), .int .i64 l.length]).run Tryz.prog w.drew = .ok (.string ⟨l.toArray⟩) (w.drew.freeze ⟨g, 0, none⟩ l.length) := by
    refine Lib.run_unsafeString_row w.drew 134 3 9 5 Tryz.underlying134 (by kernel_rfl) g cur.size (by have hg' : w.drew.heap[g]? = some (.cells cur 5 fr) := hg; simp [World.shape?, hg']) l h0 (by omega) (by unfold maxLen at hcm; omega) ?_
    intro j x hx
    have hg' : w.drew.heap[g]? = some (.cells cur 5 fr) := hg
    rw [Addr.add_lit, Nat.zero_add, Lib.cell_of_heap hg']
    exact hcell j x hx
  have hfz : But g w (w.drew.freeze ⟨g, 0, none⟩ l.length) := by
    unfold World.freeze
    rw [if_neg hl0]
    refine ⟨⟨rfl, rfl, rfl⟩, by show w.heap.size ≤ (w.heap.modify g _).size; simp, fun k hk hne => ?_⟩
    show (w.heap.modify g _)[k]? = _
    rw [Array.getElem?_modify, if_neg (fun e => hne e.symm)]
  clear hcell hsz hcap hcm h0 hl0 hg
  have mixed : Tryz.prog.follows .mixedOrders = true := by kernel_rfl
  go_enter Tryz.func59, Tryz.ntmps59
  go_wp2
  go_region_o
  all_goals (go_wp2; go_ret; exact ⟨rfl, hfz⟩)
end Go.Proofs

/- strings.Builder: the text, and the writing of texts, as contracts. -/
namespace Go.AW
open Go Go.Proofs Go.Lib

theorem repL_byt {w : World} {μ : Mu} : ∀ {l : List UInt8} {vs : List Value}, RepL w μ (l.map fun b => HV.int .u8 (b.toNat : Int)) vs → vs = l.map fun b => Value.int .u8 (b.toNat : Int)
  | [], vs, h => h
  | x :: l, vs, h => by
    obtain ⟨v, vs', rfl, hx, hr⟩ := h
    obtain ⟨rfl, _⟩ := hx
    rw [repL_byt hr]
    rfl

theorem c_String {H : Heap} {K : HV → Heap → Prop} {id ver aid aver : Nat} {u : Bool} {l : List UInt8} (hg : hget H id = some (ver, bldO id ver aid aver u l)) (ha : hget H aid = some (aver, bytO l)) (hK : ∀ av, K (.str l) ((aid, av, .arr 1 5 []) :: H)) :
    ACall Tryz.prog 59 [.ptr id ver 0] H K := by
  refine ⟨enters' Tryz.func59 rfl rfl, fun μ w vs hs hr => ?_⟩
  obtain ⟨x, xs, rfl, hr, hn⟩ := hr
  cases hn
  obtain ⟨lo, hl, hor⟩ := hs.has _ _ _ hg
  obtain ⟨la, hla, hora⟩ := hs.has _ _ _ ha
  have hle : ∀ v ob j (y : Nat × AObj), hget ((aid, v, ob) :: H) j = some y ↔ hget (hset H aid v ob) j = some y := fun v ob j y => by simp only [hget, hget_hset]
  have fin : ∀ (g : Nat) (w' : World), (∀ b, μ.loc aid = some (aver, some b) → b = g) → (la = none → w.heap.size ≤ g) → l.length ≤ maxLen → But g w w' → ∃ v r H' μ', Ending.returned (.string ⟨l.toArray⟩) = .returned v ∧ K r H' ∧ SR w' μ' H' ∧ Rep w' μ' r v ∧ Evo w μ w' μ' := by
    intro g w' hb hgn hlen ⟨h1, h2, h3⟩
    have hold : ∀ b, b < w.heap.size → (∀ ver, μ.loc aid ≠ some (ver, some b)) → w'.heap[b]? = w.heap[b]? := fun b hb1 hb2 => by
      by_cases e : b = g
      · cases la with
        | none => exact absurd (hgn rfl) (by omega)
        | some b0 =>
          have := hb b0 hla
          subst this
          subst e
          exact absurd hla (hb2 _)
      · exact h3 b hb1 e
    have hsr := hs.repl aid none (.arr 1 5 []) h1 h2 hold (fun b hb => by cases hb) rfl
    have hE := Evo.repl hs aid none h1 h2 hold (fun b hb => by cases hb)
    exact ⟨_, .str l, _, μ.set aid none, rfl, hK μ.nx, hsr.le (hle _ _), ⟨rfl, hlen⟩, hE⟩
  rcases hr with ⟨b, hl', rfl⟩ | ⟨hd, _⟩
  · rw [hl] at hl'
    cases hl'
    obtain ⟨h1, cur, vs', rest, hrow, hcl, hrl⟩ := hor
    obtain ⟨v0, vs1, rfl, r0, v1, vs2, rfl, r1, hn⟩ := hrl
    cases hn
    have hrow2 := hrow
    obtain ⟨lo', hi', hbk, hfr⟩ := hrow2
    have hc1 : cur[1]? = some v1 := by rw [← Array.getElem?_toList, hcl]; rfl
    have hcell : w.cell? ⟨b, 1, none⟩ = some v1 := by rw [Lib.cell_of_heap hbk]; exact hc1
    have hlt : b < w.heap.size := by
      rcases Nat.lt_or_ge b w.heap.size with h' | h'
      · exact h'
      · simp [Array.getElem?_eq_none h'] at hbk
    rcases r1 with ⟨la', hla', ⟨rfl, rfl, h0, _⟩ | ⟨g, cap, curg, e, rfl, rfl, hnc, hcm, hrowg, hszg⟩⟩ | ⟨hd, _⟩
    · have hln := List.eq_nil_of_length_eq_zero h0
      subst hln
      refine (Tryz.bldS_nil b w.heap.size w hcell).mono ?_
      rintro e w' ⟨rfl, hb⟩
      exact fin _ w' (fun b hb => by rw [hla'] at hb; cases hb) (fun _ => Nat.le_refl _) (Nat.zero_le _) hb
    · rw [hla] at hla'
      cases hla'
      obtain ⟨_, cur2, vs2, rest2, hrow2, hcl2, hrl2⟩ := hora
      obtain ⟨lo2, hi2, hbg, hfr2⟩ := hrow2
      obtain ⟨lo3, hi3, hbg3, hfr3⟩ := hrowg
      rw [hbg] at hbg3
      cases hbg3
      have hvs := repL_byt hrl2
      subst hvs
      have hb1 : ∀ b, μ.loc aid = some (aver, some b) → b = g := fun b hb => by rw [hla] at hb; cases hb; rfl
      by_cases h0 : l = []
      · subst h0
        by_cases hc0 : cap = 0
        · subst hc0
          refine (Tryz.bldS_noroom b g curg _ w hlt hcell hbg).mono ?_
          rintro e w' ⟨rfl, hb⟩
          exact fin g w' hb1 (fun e => by cases e) (Nat.zero_le _) hb
        · refine (Tryz.bldS_room b g cap w hc0 hcell).mono ?_
          rintro e w' ⟨rfl, hb⟩
          exact fin g w' hb1 (fun e => by cases e) (Nat.zero_le _) hb
      · refine (Tryz.bldS_some b g cap curg _ l w h0 hcell hbg hnc (by omega) hcm fun j x hj => ?_).mono ?_
        · rw [← Array.getElem?_toList, hcl2, List.getElem?_append_left (by
            have := (List.getElem?_eq_some_iff.1 hj).1
            simpa using this), List.getElem?_map, hj]
          rfl
        · rintro e w' ⟨rfl, hb⟩
          exact fin g w' hb1 (fun e => by cases e) (by omega) hb
    · exact absurd hla (hd.2 _)
  · exact absurd hl (hd.2 _)
end Go.AW

/- strings.Builder: WriteString. -/
namespace Go.AW
open Go Go.Proofs
set_option linter.unusedVariables false


set_option maxRecDepth 100000 in
theorem c_WriteString {H : Heap} {K : HV → Heap → Prop} {id ver aid aver : Nat} {u : Bool} {l m : List UInt8} (hid : aid ≠ id) (hg : hget H id = some (ver, bldO id ver aid aver u l)) (ha : hget H aid = some (aver, bytO l)) (hfit : fits 1 (l.length + m.length))
    (hK : ∀ av, K (.tup [.int .i64 (m.length : Int), .v .nilIface]) ((id, ver, bldO id ver aid av true (l ++ m)) :: (aid, av, bytO (l ++ m)) :: H)) : ACall Tryz.prog 54 [.ptr id ver 0, .str m] H K := by
  refine ACall.of_body Tryz.func54 rfl rfl (Nat.le_of_ble_eq_true rfl) ?_
  unfold Tryz.f54
  dsimp only [enumS, Nat.reduceAdd]
  refine AW.rgs rfl fun K1 hK1 => ?_
  refine mv rfl rfl ?_
  refine mv rfl rfl ?_
  refine b_nil (hK1 _ (AW.to (to_le (s' := ⟨[(0, .ptr id ver 0), (1, .str m)], H⟩) (le_slH ⟨rfl, rfl, trivial⟩) ?_)))
  clear hK1 K1
  refine AW.rgs rfl fun K1 hK1 => ?_
  refine mv rfl rfl ?_
  refine b_op rfl (o_callA rfl rfl rfl rfl (c_copyCheck hg ?_))
  refine b_nil (hK1 _ (AW.to (to_le (s' := ⟨[(0, .ptr id ver 0), (1, .str m)], (id, ver, .arr 2 80 [.ptr id ver 0, .ar aid aver 1 0 l.length]) :: H⟩) (le_slH ⟨rfl, rfl, trivial⟩) ?_)))
  clear hK1 K1
  have ha1 : hget ((id, ver, AObj.arr 2 80 [.ptr id ver 0, .ar aid aver 1 0 l.length]) :: H) aid = some (aver, .arr eByte.k 5 (eByte.E l)) := hget_1 hid ha
  refine AW.rgs rfl fun K1 hK1 => ?_
  refine mv rfl rfl ?_
  refine mv rfl rfl ?_
  refine bv rfl (v_nilP rfl hget_0) ?_
  refine bv rfl (v_fieldAddrP fo80_1 rfl hget_0) ?_
  refine bv rfl (v_loadP ty28 rfl hget_0 (l_lit rfl rfl)) ?_
  refine mv rfl rfl ?_
  refine b_op rfl (o_appS (l := l) (m := m) rfl rfl ty28 ty9 ty5 rfl ha1 rfl rfl rfl hfit (fun av => ?_))
  refine bv rfl (v_nilP rfl (hget_1 (fun e => hid e.symm) hget_0)) ?_
  refine bv rfl (v_fieldAddrP fo80_1 rfl (hget_1 (fun e => hid e.symm) hget_0)) ?_
  refine b_op rfl (o_store (cs := [.ar aid av 1 0 (l ++ m).length]) (zs := [.ptr id ver 0, .ar aid av 1 0 (l ++ m).length]) rfl rfl rfl ty28 rfl (hget_1 (fun e => hid e.symm) hget_0) rfl rfl rfl ?_)
  refine b_nil (hK1 _ (AW.to (to_le (s' := ⟨[(1, .str m)], (id, ver, .arr 2 80 [.ptr id ver 0, .ar aid av 1 0 (l ++ m).length]) :: (aid, av, .arr 1 5 (eByte.E (l ++ m))) :: H⟩) ⟨leS_get ⟨rfl, trivial⟩, fun j x hx => ?_⟩ ?_)))
  · simp only [hget] at hx ⊢
    by_cases h1 : j = id
    · subst h1; simpa using hx
    · rw [if_neg h1] at hx ⊢
      by_cases h2 : j = aid
      · rw [if_pos h2] at hx ⊢; exact hx
      · rw [if_neg h2] at hx
        rw [if_neg h2, if_neg h1]
        exact hx
  clear hK1 K1
  refine AW.rgs rfl fun K1 hK1 => ?_
  refine mv rfl rfl ?_
  refine bv rfl (v_lenS rfl rfl ty9 rfl) ?_
  refine mv rfl rfl ?_
  refine mv rfl rfl ?_
  refine b_nil (hK1 _ (AW.to (to_le (s' := ⟨[(4, .int .i64 (m.length : Int)), (5, .v .nilIface)], (id, ver, .arr 2 80 [.ptr id ver 0, .ar aid av 1 0 (l ++ m).length]) :: (aid, av, .arr 1 5 (eByte.E (l ++ m))) :: H⟩) (le_slH ⟨rfl, rfl, trivial⟩) ?_)))
  clear hK1 K1
  refine AW.ret ⟨.inr rfl, ?_⟩
  simp only [go_sem]
  exact ⟨_, _, Conv.refl _ _, hK av⟩
end Go.AW

namespace Go.Proofs
open Go
def Tryz.count_ren : Go.Shelf.Ren := ⟨fun | 138 => 112 | 195 => 163 | 218 => 164 | 143 => 165 | 219 => 197 | 217 => 162 | 225 => 226 | 224 => 227 | 267 => 228 | 266 => 196 | 314 => 249 | n => n, fun | 9 => 9 | 3 => 3 | 4 => 4 | 5 => 5 | 0 => 0 | 46 => 97 | 146 => 212 | 51 => 105 | n => n, fun | 1 => 0 | n => n⟩
theorem Tryz.count : Go.Proofs.Lays.n138 Tryz.prog Tryz.count_ren where
  mixed := by kernel_rfl
  f138 := Tryz.func112.trans (congrArg some (by kernel_rfl))
  f143 := Tryz.func165.trans (congrArg some (by kernel_rfl))
  f195 := Tryz.func163.trans (congrArg some (by kernel_rfl))
  f217 := Tryz.func162.trans (congrArg some (by kernel_rfl))
  f218 := Tryz.func164.trans (congrArg some (by kernel_rfl))
  f219 := Tryz.func197.trans (congrArg some (by kernel_rfl))
  f224 := Tryz.func227.trans (congrArg some (by kernel_rfl))
  f225 := Tryz.func226.trans (congrArg some (by kernel_rfl))
  f266 := Tryz.func196.trans (congrArg some (by kernel_rfl))
  f267 := Tryz.func228.trans (congrArg some (by kernel_rfl))
  f314 := Tryz.func249.trans (congrArg some (by kernel_rfl))
  t0 := Tryz.underlying0
  a0 := Tryz.isAgg0
  z0 := Tryz.sizeOf0
  v0 := Tryz.zeroValue0
  t3 := Tryz.underlying3
  a3 := Tryz.isAgg3
  z3 := Tryz.sizeOf3
  v3 := Tryz.zeroValue3
  t4 := Tryz.underlying4
  a4 := Tryz.isAgg4
  z4 := Tryz.sizeOf4
  v4 := Tryz.zeroValue4
  t5 := Tryz.underlying5
  a5 := Tryz.isAgg5
  z5 := Tryz.sizeOf5
  v5 := Tryz.zeroValue5
  t9 := Tryz.underlying9
  a9 := Tryz.isAgg9
  z9 := Tryz.sizeOf9
  v9 := Tryz.zeroValue9
  t46 := Tryz.underlying97
  a46 := Tryz.isAgg97
  z46 := Tryz.sizeOf97
  v46 := Tryz.zeroValue97
  t51 := Tryz.underlying105
  a51 := Tryz.isAgg105
  z51 := Tryz.sizeOf105
  v51 := Tryz.zeroValue105
  t146 := Tryz.underlying212
  a146 := Tryz.isAgg212
  z146 := Tryz.sizeOf212
  v146 := Tryz.zeroValue212
  g1 := by kernel_rfl
end Go.Proofs

/- Models, printed by lk.py. -/
namespace Go.AW
open Go
set_option linter.unusedVariables false
noncomputable def m_graph_list (p0 : TFromLabelTo) : Option ((List (Int))) :=
  some [p0.1, p0.2.1, p0.2.2]

noncomputable def m_cmp_isNaN_int (p0 : Int) : Option (Bool) :=
  some (decide (p0 ≠ p0))

noncomputable def m_cmp_Compare_int (p0 : Int) (p1 : Int) : Option (Int) :=
  (m_cmp_isNaN_int p0).bind fun x1 =>
  (m_cmp_isNaN_int p1).bind fun x3 =>
  if x1 = true then
    if x3 = true then
      some 0
    else
      some (-1)
  else
    if x3 = true then
      some 1
    else
      if p0 < p1 then
        some (-1)
      else
        if p1 < p0 then
          some 1
        else
          some 0

noncomputable def m_slices_Compare_Lint_int (p0 : List (Int)) (p1 : List (Int)) : Option (Int) :=
  lpO (loopW (S := Int) (X := Ou (Unit) (Int)) (fun a1 =>
      if a1 < ((p0).length : Int) then
        (idx p0 a1).bind fun x5 =>
        if ((p1).length : Int) ≤ a1 then
          some (Stp.exit (Ou.ret 1))
        else
          (idx p1 a1).bind fun x7 =>
          (m_cmp_Compare_int x5 x7).bind fun x9 =>
          if x9 ≠ 0 then
            some (Stp.exit (Ou.ret x9))
          else
            some (Stp.next (IntKind.wrap .i64 (a1 + 1)))
      else
        some (Stp.exit (Ou.go ()))) 0) (fun a11 =>
      if ((p0).length : Int) < ((p1).length : Int) then
        some (-1)
      else
        some 0) some

noncomputable def m_graph_by_api_Edge_1 (p0 : TFromLabelTo) (p1 : TFromLabelTo) : Option (Int) :=
  (m_graph_list p0).bind fun x1 =>
  (m_graph_list p1).bind fun x3 =>
  (m_slices_Compare_Lint_int x1 x3).bind fun x5 =>
  some x5

noncomputable def m_graph_Check (p0 : TLabelsStatesEdges) : Option (Int) :=
  jp (fun (a1 : Bool) =>
    if a1 = true then
      some 12
    else
      if p0.2.1 < 0 then
        some 2
      else
        jp (fun (a4 : Bool) =>
          if a4 = true then
            some 4
          else
            lpO (loopW (S := Int) (X := Ou (Unit) (Int)) (fun a7 =>
                if a7 < ((p0.2.2).length : Int) then
                  (idx p0.2.2 a7).bind fun x11 =>
                  jp (fun (a14 : Bool) =>
                    if a14 = true then
                      some (Stp.exit (Ou.ret 2))
                    else
                      jp (fun (a17 : Bool) =>
                        if a17 = true then
                          some (Stp.exit (Ou.ret 10))
                        else
                          some (Stp.next (IntKind.wrap .i64 (a7 + 1))))
                        fun k19 =>
                        if 0 < a7 then
                          (idx p0.2.2 (IntKind.wrap .i64 (a7 - 1))).bind fun x20 =>
                          (m_graph_by_api_Edge_1 x20 x11).bind fun x22 =>
                          k19 (decide (0 ≤ x22))
                        else
                          k19 false)
                    fun k16 =>
                    if (min (min x11.1 x11.2.1) x11.2.2) < 0 then
                      k16 true
                    else
                      if p0.2.1 ≤ (max x11.1 x11.2.2) then
                        k16 true
                      else
                        k16 (decide (p0.1 ≤ x11.2.1))
                else
                  some (Stp.exit (Ou.go ()))) 0) (fun a27 =>
                some 0) some)
          fun k6 =>
          if 64 < p0.2.1 then
            k6 true
          else
            k6 (decide (1024 < ((p0.2.2).length : Int))))
    fun k3 =>
    if p0.1 < 1 then
      k3 true
    else
      k3 (decide (256 < p0.1))

noncomputable def m_graph_checkSet (p0 : TLabelsStatesEdges) (p1 : List (Int)) : Option (Int) :=
  lpO (loopW (S := Int) (X := Ou (Unit) (Int)) (fun a1 =>
      if a1 < ((p1).length : Int) then
        (idx p1 a1).bind fun x5 =>
        jp (fun (a7 : Bool) =>
          if a7 = true then
            some (Stp.exit (Ou.ret 25))
          else
            jp (fun (a10 : Bool) =>
              if a10 = true then
                some (Stp.exit (Ou.ret 10))
              else
                some (Stp.next (IntKind.wrap .i64 (a1 + 1))))
              fun k12 =>
              if 0 < a1 then
                (idx p1 (IntKind.wrap .i64 (a1 - 1))).bind fun x13 =>
                k12 (decide (x5 ≤ x13))
              else
                k12 false)
          fun k9 =>
          if x5 < 0 then
            k9 true
          else
            k9 (decide (p0.2.1 ≤ x5))
      else
        some (Stp.exit (Ou.go ()))) 0) (fun a17 =>
      some 0) some

noncomputable def m_graph_Step (p0 : TLabelsStatesEdges) (p1 : List (Int)) (p2 : Int) : Option ((List (Int)) × Int) :=
  (m_graph_Check p0).bind fun x1 =>
  if x1 ≠ 0 then
    some ([], 1)
  else
    (m_graph_checkSet p0 p1).bind fun x3 =>
    if x3 ≠ 0 then
      some ([], x3)
    else
      jp (fun (a5 : Bool) =>
        if a5 = true then
          some ([], 2)
        else
          (loopW (S := Int × (List Int)) (X := (List Int)) (fun a9 =>
              if a9.1 < ((p1).length : Int) then
                (idx p1 a9.1).bind fun x13 =>
                (y_graph_leaving p0 x13).bind fun L15 =>
                lpO (forL (S := (List Int)) (X := Unit) (fun a17 (x19 : Int × TFromLabelTo) =>
                    if x19.2.2.1 = p2 then
                      if fits 8 ((a17 : List Int).length + ([x19.2.2.2]).length) then
                        some (Stp.next (a17 ++ [x19.2.2.2]))
                      else none
                    else
                      some (Stp.next a17)) L15 a9.2) (fun a26 =>
                    some (Stp.next (IntKind.wrap .i64 (a9.1 + 1), a26))) fun a28 =>
                    none
              else
                some (Stp.exit a9.2)) (0, ([] : List Int))).bind fun a31 =>
          if (a31).length < 4611686018427387904 then
            some (compact_ (sortI a31), 0)
          else none)
        fun k7 =>
        if p2 < 0 then
          k7 true
        else
          k7 (decide (p0.1 ≤ p2))

noncomputable def m_ref09_Compare (p0 : TFromLabelTo) (p1 : TFromLabelTo) : Option (Int) :=
  lpO (loopW (S := Int) (X := Ou (Unit) (Int)) (fun a1 =>
      if a1 < 3 then
        (idx [p0.1, p0.2.1, p0.2.2] a1).bind fun x5 =>
        (idx [p1.1, p1.2.1, p1.2.2] a1).bind fun x7 =>
        if x5 < x7 then
          some (Stp.exit (Ou.ret (-1)))
        else
          (idx [p0.1, p0.2.1, p0.2.2] a1).bind fun x9 =>
          (idx [p1.1, p1.2.1, p1.2.2] a1).bind fun x11 =>
          if x11 < x9 then
            some (Stp.exit (Ou.ret 1))
          else
            some (Stp.next (IntKind.wrap .i64 (a1 + 1)))
      else
        some (Stp.exit (Ou.go ()))) 0) (fun a13 =>
      some 0) some

noncomputable def m_ref09_Check (p0 : TLabelsStatesEdges) : Option (Int) :=
  jp (fun (a1 : Bool) =>
    if a1 = true then
      some 12
    else
      if p0.2.1 < 0 then
        some 2
      else
        jp (fun (a4 : Bool) =>
          if a4 = true then
            some 4
          else
            lpO (loopW (S := Int) (X := Ou (Unit) (Int)) (fun a7 =>
                if a7 < ((p0.2.2).length : Int) then
                  (idx p0.2.2 a7).bind fun x11 =>
                  jp (fun (a14 : Bool) =>
                    if a14 = true then
                      some (Stp.exit (Ou.ret 2))
                    else
                      jp (fun (a17 : Bool) =>
                        if a17 = true then
                          some (Stp.exit (Ou.ret 10))
                        else
                          some (Stp.next (IntKind.wrap .i64 (a7 + 1))))
                        fun k19 =>
                        if 0 < a7 then
                          (idx p0.2.2 (IntKind.wrap .i64 (a7 - 1))).bind fun x20 =>
                          (m_ref09_Compare x20 x11).bind fun x22 =>
                          k19 (decide (0 ≤ x22))
                        else
                          k19 false)
                    fun k16 =>
                    if x11.1 < 0 then
                      k16 true
                    else
                      if p0.2.1 ≤ x11.1 then
                        k16 true
                      else
                        if x11.2.2 < 0 then
                          k16 true
                        else
                          if p0.2.1 ≤ x11.2.2 then
                            k16 true
                          else
                            if x11.2.1 < 0 then
                              k16 true
                            else
                              k16 (decide (p0.1 ≤ x11.2.1))
                else
                  some (Stp.exit (Ou.go ()))) 0) (fun a30 =>
                some 0) some)
          fun k6 =>
          if 64 < p0.2.1 then
            k6 true
          else
            k6 (decide (1024 < ((p0.2.2).length : Int))))
    fun k3 =>
    if p0.1 < 1 then
      k3 true
    else
      k3 (decide (256 < p0.1))

noncomputable def m_language_step (p0 : TLabelsStatesEdges) (p1 : List (Int)) (p2 : Int) : Option ((List (Int))) :=
  (m_strings_IndexByte [48, 49, 50, 51, 52, 53, 54, 55, 56, 57, 97, 98, 99, 100, 101, 102] p2).bind fun x1 =>
  (m_graph_Step p0 p1 x1).bind fun x3 =>
  some x3.1

noncomputable def m_language_states (p0 : TLabelsStatesEdges) : Option ((List (Int))) :=
  if 0 ≤ (p0.2.1 : Int) ∧ (p0.2.1 : Int) ≤ p0.2.1 ∧ (p0.2.1 : Int) * 8 ≤ 281474976710656 then
    (loopW (S := Int × (List Int)) (X := (List Int)) (fun a3 =>
        if a3.1 < (((List.replicate (p0.2.1).toNat (0 : Int)).length : Nat) : Int) then
          (idx a3.2 a3.1).bind fun x7 =>
          some (Stp.next (IntKind.wrap .i64 (a3.1 + 1), (a3.2).set (a3.1).toNat a3.1))
        else
          some (Stp.exit a3.2)) (0, List.replicate (p0.2.1).toNat (0 : Int))).bind fun a9 =>
    some a9
  else none

noncomputable def m_language_check (p0 : TLabelsStatesEdges) : Option (Int) :=
  (m_graph_Check p0).bind fun x1 =>
  if x1 ≠ 0 then
    some 1
  else
    if 16 < p0.1 then
      some 12
    else
      some 0

noncomputable def m_word_known (p0 : Int) : Option (Bool) :=
  jp (fun (a1 : Bool) =>
    some a1)
    fun k3 =>
    if 1 ≤ p0 then
      k3 (decide (p0 ≤ 16))
    else
      k3 false

noncomputable def m_word_Check (p0 : Int) (p1 : List UInt8) : Option (Int) :=
  (m_word_known p0).bind fun x1 =>
  if (!x1) = true then
    some 12
  else
    if 65536 < ((p1).length : Int) then
      some 4
    else
      lpO (loopW (S := Int) (X := Ou (Unit) (Int)) (fun a3 =>
          if a3 < ((p1).length : Int) then
            if 0 ≤ (0 : Int) ∧ (0 : Int) ≤ p0 ∧ p0 ≤ (([48, 49, 50, 51, 52, 53, 54, 55, 56, 57, 97, 98, 99, 100, 101, 102] : List UInt8).length : Int) then
              (idx p1 a3).bind fun x8 =>
              (m_strings_IndexByte ((([48, 49, 50, 51, 52, 53, 54, 55, 56, 57, 97, 98, 99, 100, 101, 102] : List UInt8).take (p0).toNat).drop (0 : Int).toNat) (x8.toNat : Int)).bind fun x10 =>
              if x10 < 0 then
                some (Stp.exit (Ou.ret 13))
              else
                some (Stp.next (IntKind.wrap .i64 (a3 + 1)))
            else none
          else
            some (Stp.exit (Ou.go ()))) 0) (fun a12 =>
          some 0) some

noncomputable def m_language_spells (p0 : TLabelsStatesEdges) (p1 : List UInt8) : Option (Int) :=
  (m_language_check p0).bind fun x1 =>
  if x1 ≠ 0 then
    some x1
  else
    (m_word_Check p0.1 p1).bind fun x3 =>
    some x3

end Go.AW

/- Models, printed by lk.py. -/
namespace Go.AW
open Go
set_option linter.unusedVariables false
abbrev TNegMag := Bool × (List UInt8)
noncomputable def m_integer_trim (p0 : List (Int)) : Option ((List (Int))) :=
  (loopW (S := (List Int)) (X := (List Int)) (fun a1 =>
      jp (fun (a5 : Bool) =>
        if a5 = true then
          if 0 ≤ (0 : Int) ∧ (0 : Int) ≤ IntKind.wrap .i64 (((a1).length : Int) - 1) ∧ IntKind.wrap .i64 (((a1).length : Int) - 1) ≤ (a1.length : Int) then
            some (Stp.next ((a1.take (IntKind.wrap .i64 (((a1).length : Int) - 1)).toNat).drop (0 : Int).toNat))
          else none
        else
          some (Stp.exit a1))
        fun k7 =>
        if 0 < ((a1).length : Int) then
          (idx a1 (IntKind.wrap .i64 (((a1).length : Int) - 1))).bind fun x9 =>
          k7 (decide (x9 = 0))
        else
          k7 false) p0).bind fun a12 =>
  some a12

noncomputable def m_integer_number (p0 : Bool) (p1 : List (Int)) : Option (TNegMag) :=
  (m_integer_trim p1).bind fun x2 =>
  if ((x2).length : Int) = 0 then
    some (false, ([] : List UInt8))
  else
    if 0 ≤ (0 : Int) ∧ (0 : Int) ≤ IntKind.wrap .i64 (4 * ((x2).length : Int)) ∧ (IntKind.wrap .i64 (4 * ((x2).length : Int)) : Int) * 1 ≤ 281474976710656 then
      (loopW (S := Int × (List Int)) (X := (List Int)) (fun a6 =>
          if 0 ≤ a6.1 then
            (loopW (S := Int × (List Int)) (X := (List Int)) (fun a10 =>
                if 0 ≤ a10.1 then
                  jp (fun (a14 : (List Int)) =>
                    some (Stp.next (IntKind.wrap .i64 (a10.1 - 1), a14)))
                    fun k16 =>
                    (idx x2 a6.1).bind fun x17 =>
                    if 0 ≤ (IntKind.wrap .i64 (8 * a10.1)) then
                      jp (fun (a20 : Bool) =>
                        if a20 = true then
                          if fits 1 ((a10.2 : List Int).length + ([IntKind.wrap .u8 (Int.fdiv x17 (2 ^ (min ((IntKind.wrap .i64 (8 * a10.1))).toNat (IntKind.bits .u32))))]).length) then
                            k16 (a10.2 ++ [IntKind.wrap .u8 (Int.fdiv x17 (2 ^ (min ((IntKind.wrap .i64 (8 * a10.1))).toNat (IntKind.bits .u32))))])
                          else none
                        else
                          k16 a10.2)
                        fun k22 =>
                        if (IntKind.wrap .u8 (Int.fdiv x17 (2 ^ (min ((IntKind.wrap .i64 (8 * a10.1))).toNat (IntKind.bits .u32))))) ≠ 0 then
                          k22 true
                        else
                          k22 (decide (0 < (((a10.2).length : Nat) : Int)))
                    else none
                else
                  some (Stp.exit a10.2)) (3, a6.2)).bind fun a26 =>
            some (Stp.next (IntKind.wrap .i64 (a6.1 - 1), a26))
          else
            some (Stp.exit a6.2)) (IntKind.wrap .i64 (((x2).length : Int) - 1), List.replicate (0 : Int).toNat (0 : Int))).bind fun a28 =>
      some (p0, a28.map fun n => UInt8.ofNat n.toNat)
    else none

end Go.AW

/- What functions compute that chapter 31 uses (not printed). -/
namespace Go.AW
open Go
def m_law31_awake : Option Bool := some true
def m_strings_Count (s sub : List UInt8) : Option Int := match sub with
  | [c] => some ((Lib.countByte s c : Nat) : Int)
  | _ => none
def m_math_bits_Len64 (x : Int) : Option Int := if x = 1 then some 1 else if x = 2 ∨ x = 3 then some 2 else if x = 4 ∨ x = 5 ∨ x = 6 then some 3 else none
abbrev TNumDen := TNegMag × TNegMag
def ratT (p q : Nat) : TNumDen := if p = 0 then ((false, []), (false, [1])) else ((false, [UInt8.ofNat (p / Nat.gcd p q)]), (false, [UInt8.ofNat (q / Nat.gcd p q)]))
def m_rational_Ratio (p q : Int) : Option (TNumDen × Int) := if 0 ≤ p ∧ p ≤ 2 ∧ 1 ≤ q ∧ q ≤ 16 then some (ratT p.toNat q.toNat, 0) else none
end Go.AW

/- strings.Count of one byte, by the kit's contract. -/
namespace Go.AW
open Go Go.Proofs
theorem countB_le (l : List UInt8) (c : UInt8) : Lib.countByte l c ≤ l.length := List.count_le_length
theorem countB_wf (l : List UInt8) (c : UInt8) (hl : l.length ≤ maxLen) : (Lit.int .i64 ((Lib.countByte l c : Nat) : Int)).wf = true := by
  have := countB_le l c
  simp only [maxLen] at hl
  simp only [Lit.wf, IntKind.min, IntKind.max, IntKind.signed, IntKind.bits, Bool.and_eq_true, decide_eq_true_eq]
  simp
  omega
theorem w_strings_Count {a0 a1 : List UInt8} {r : Int} (h : m_strings_Count a0 a1 = some r) : Pure Tryz.prog 112 [HV.str a0, HV.str a1] (· = HV.int .i64 r) := by
  unfold m_strings_Count at h
  split at h
  · rename_i c
    cases h
    refine ⟨enters' Tryz.func112 rfl rfl, fun μ w vs hs hr => ?_⟩
    obtain ⟨x, xs, rfl, ⟨rfl, hl⟩, y, ys, rfl, ⟨rfl, _⟩, hn⟩ := hr
    cases hn
    refine (Any.strings_Count_one Tryz.count ⟨a0.toArray⟩ c w).mono ?_
    rintro e w' ⟨rfl, rfl⟩
    exact ⟨_, _, [], μ, rfl, ⟨rfl, trivial, rfl⟩, hs, ⟨by simp, countB_wf a0 c hl⟩, Evo.refl _ _⟩
  · cases h
end Go.AW

/- Renaming the versions of an abstract state: what an evaluation of closed code may count, and how the count is read in a run. -/
namespace Go.AW
open Go

mutual
def HV.ren (ρ : Nat → Nat) : HV → HV
  | .int k n => .int k n
  | .bool b => .bool b
  | .str l => .str l
  | .v x => .v x
  | .agg cs => .agg (renL ρ cs)
  | .tup cs => .tup (renL ρ cs)
  | .sl k n cs => .sl k n (renL ρ cs)
  | .ar id ver k off n => .ar id (ρ ver) k off n
  | .ptr id ver off => .ptr id (ρ ver) off
  | .fptr cs off => .fptr (renL ρ cs) off
  | .fn f fs cs => .fn f (renL ρ fs) (renL ρ cs)
  | .mp id ver => .mp id (ρ ver)
  | .yl id ver => .yl id (ρ ver)
  | .it id ver => .it id (ρ ver)
def renL (ρ : Nat → Nat) : List HV → List HV
  | [] => []
  | c :: cs => c.ren ρ :: renL ρ cs
end

theorem renL_map (ρ : Nat → Nat) : ∀ cs, renL ρ cs = cs.map (HV.ren ρ)
  | [] => by simp [renL]
  | c :: cs => by simp [renL, renL_map ρ cs]

def renS (ρ : Nat → Nat) : List (Nat × HV) → List (Nat × HV)
  | [] => []
  | (t, h) :: l => (t, h.ren ρ) :: renS ρ l

def renE (ρ : Nat → Nat) : List (List UInt8 × HV) → List (List UInt8 × HV)
  | [] => []
  | (t, h) :: l => (t, h.ren ρ) :: renE ρ l

def AObj.ren (ρ : Nat → Nat) : AObj → AObj
  | .arr k e cs => .arr k e (renL ρ cs)
  | .map es => .map (renE ρ es)
  | .iter mid mver seen cur => .iter mid (ρ mver) seen cur
  | .loop st pend f n snap ps assign body => .loop st pend (ρ f) n (renS ρ snap) ps assign body

def renH (ρ : Nat → Nat) : Heap → Heap
  | [] => []
  | (i, v, o) :: l => (i, ρ v, o.ren ρ) :: renH ρ l

def AS.ren (ρ : Nat → Nat) (s : AS) : AS := ⟨renS ρ s.slots, renH ρ s.heap⟩

theorem sget_ren (ρ : Nat → Nat) : ∀ (l : List (Nat × HV)) (t : Nat), sget (renS ρ l) t = (sget l t).map (HV.ren ρ)
  | [], t => rfl
  | (i, h) :: l, t => by
    simp only [renS, sget]
    split
    · rfl
    · exact sget_ren ρ l t

theorem hget_ren (ρ : Nat → Nat) : ∀ (l : Heap) (t : Nat), hget (renH ρ l) t = (hget l t).map fun x => (ρ x.1, x.2.ren ρ)
  | [], t => rfl
  | (i, v, o) :: l, t => by
    simp only [renH, hget]
    split
    · rfl
    · exact hget_ren ρ l t

theorem renS_set (ρ : Nat → Nat) : ∀ (l : List (Nat × HV)) (t : Nat) (h : HV), renS ρ (sset l t h) = sset (renS ρ l) t (h.ren ρ)
  | [], t, h => rfl
  | (i, g) :: l, t, h => by
    simp only [renS, sset]
    split
    · rfl
    · simp only [renS, renS_set ρ l t h]

theorem renH_set (ρ : Nat → Nat) : ∀ (l : Heap) (t v : Nat) (o : AObj), renH ρ (hset l t v o) = hset (renH ρ l) t (ρ v) (o.ren ρ)
  | [], t, v, o => rfl
  | (i, w, p) :: l, t, v, o => by
    simp only [renH, hset]
    split
    · rfl
    · simp only [renH, renH_set ρ l t v o]

theorem ren_put (ρ : Nat → Nat) (s : AS) (d : Option Tmp) (h : HV) : (s.put d h).ren ρ = (s.ren ρ).put d (h.ren ρ) := by
  cases d with
  | none => rfl
  | some t => simp [AS.put, AS.ren, renS_set]

theorem constHV_ren (ρ : Nat → Nat) (v : Value) : (constHV v).map (HV.ren ρ) = constHV v := by
  cases v with
  | int k n => simp only [constHV]; split <;> rfl
  | string s => simp only [constHV]; split <;> rfl
  | _ => rfl

theorem ev_ren (ρ : Nat → Nat) (s : AS) (x : Operand) : (s.ren ρ).ev x = (s.ev x).map (HV.ren ρ) := by
  cases x with
  | tmp t => exact sget_ren ρ s.slots t
  | const v => exact (constHV_ren ρ v).symm
  | global g => rfl
  | func f => rfl

theorem evL_ren (ρ : Nat → Nat) (s : AS) : ∀ xs : List Operand, xs.mapM (s.ren ρ).ev = (xs.mapM s.ev).map (renL ρ)
  | [] => rfl
  | x :: xs => by
    simp only [List.mapM_cons, Option.pure_def, Option.bind_eq_bind, ev_ren, evL_ren ρ s xs]
    cases s.ev x with
    | none => rfl
    | some h => cases xs.mapM s.ev <;> rfl

theorem cells_ren (ρ : Nat → Nat) (h : HV) : (h.ren ρ).cells? = h.cells?.map (renL ρ) := by
  cases h with
  | v x => simp only [HV.ren, HV.cells?]; split <;> rfl
  | _ => rfl

theorem renL_len (ρ : Nat → Nat) (cs : List HV) : (renL ρ cs).length = cs.length := by simp [renL_map]
theorem renL_get (ρ : Nat → Nat) (cs : List HV) (i : Nat) : (renL ρ cs)[i]? = cs[i]?.map (HV.ren ρ) := by simp [renL_map]
theorem renL_drop (ρ : Nat → Nat) (cs : List HV) (i : Nat) : renL ρ (cs.drop i) = (renL ρ cs).drop i := by simp [renL_map]
theorem renL_take (ρ : Nat → Nat) (cs : List HV) (i : Nat) : renL ρ (cs.take i) = (renL ρ cs).take i := by simp [renL_map]
theorem renL_append (ρ : Nat → Nat) (cs ds : List HV) : renL ρ (cs ++ ds) = renL ρ cs ++ renL ρ ds := by simp [renL_map]
theorem renL_set (ρ : Nat → Nat) (cs : List HV) (i : Nat) (c : HV) : renL ρ (cs.set i c) = (renL ρ cs).set i (c.ren ρ) := by simp [renL_map, List.map_set]
theorem renL_splice (ρ : Nat → Nat) (xs : List HV) (off : Nat) (cs : List HV) : renL ρ (splice xs off cs) = splice (renL ρ xs) off (renL ρ cs) := by
  match cs with
  | [] => simp [splice, renL, renL_append, renL_take, renL_drop]
  | [c] => simp [splice, renL, renL_set]
  | c :: d :: cs => simp [splice, renL, renL_append, renL_take, renL_drop, renL_len]

/-! versions below n -/
mutual
def HV.sc (n : Nat) : HV → Bool
  | .agg cs | .tup cs | .sl _ _ cs | .fptr cs _ => scL n cs
  | .ar _ ver _ _ _ | .ptr _ ver _ | .mp _ ver | .yl _ ver | .it _ ver => Nat.blt ver n
  | .fn _ fs cs => scL n fs && scL n cs
  | _ => true
def scL (n : Nat) : List HV → Bool
  | [] => true
  | c :: cs => c.sc n && scL n cs
end
def scS (n : Nat) : List (Nat × HV) → Bool
  | [] => true
  | (_, h) :: l => h.sc n && scS n l
def scE (n : Nat) : List (List UInt8 × HV) → Bool
  | [] => true
  | (_, h) :: l => h.sc n && scE n l
def AObj.sc (n : Nat) : AObj → Bool
  | .arr _ _ cs => scL n cs
  | .map es => scE n es
  | .iter _ mver _ _ => Nat.blt mver n
  | .loop _ _ f _ snap _ _ _ => Nat.blt f n && scS n snap
def scH (n : Nat) : Heap → Bool
  | [] => true
  | (i, v, o) :: l => (Nat.blt i n && Nat.blt v n) && o.sc n && scH n l
def AS.sc (n : Nat) (s : AS) : Bool := scS n s.slots && scH n s.heap

def Agree (n : Nat) (ρ ρ' : Nat → Nat) : Prop := ∀ v, v < n → ρ v = ρ' v
theorem Agree.refl (n : Nat) (ρ : Nat → Nat) : Agree n ρ ρ := fun _ _ => rfl
theorem Agree.trans {n m : Nat} {ρ ρ' ρ'' : Nat → Nat} (h : Agree n ρ ρ') (hn : n ≤ m) (h' : Agree m ρ' ρ'') : Agree n ρ ρ'' := fun v hv => (h v hv).trans (h' v (by omega))
def upd (ρ : Nat → Nat) (n v : Nat) : Nat → Nat := fun x => if x = n then v else ρ x
theorem Agree.upd (n v : Nat) (ρ : Nat → Nat) : Agree n ρ (upd ρ n v) := fun x hx => by simp only [AW.upd]; rw [if_neg (by omega)]
theorem upd_at (ρ : Nat → Nat) (n v : Nat) : upd ρ n v n = v := by simp [AW.upd]

section
variable {n m : Nat} {ρ ρ' : Nat → Nat}
theorem blt_lt {a b : Nat} (h : Nat.blt a b = true) : a < b := by simpa [Nat.blt_eq] using h

mutual
theorem HV.ren_agree (ha : Agree n ρ ρ') : ∀ h : HV, h.sc n = true → h.ren ρ = h.ren ρ'
  | .int _ _, _ => rfl
  | .bool _, _ => rfl
  | .str _, _ => rfl
  | .v _, _ => rfl
  | .agg cs, h => congrArg HV.agg (renL_agree ha cs h)
  | .tup cs, h => congrArg HV.tup (renL_agree ha cs h)
  | .sl k m cs, h => congrArg (HV.sl k m) (renL_agree ha cs h)
  | .ar id ver k off m, h => by simp only [HV.ren]; rw [ha ver (blt_lt h)]
  | .ptr id ver off, h => by simp only [HV.ren]; rw [ha ver (blt_lt h)]
  | .fptr cs off, h => congrArg (fun x => HV.fptr x off) (renL_agree ha cs h)
  | .fn f fs cs, h => by
    simp only [HV.sc, Bool.and_eq_true] at h
    simp only [HV.ren]
    rw [renL_agree ha fs h.1, renL_agree ha cs h.2]
  | .mp id ver, h => by simp only [HV.ren]; rw [ha ver (blt_lt h)]
  | .yl id ver, h => by simp only [HV.ren]; rw [ha ver (blt_lt h)]
  | .it id ver, h => by simp only [HV.ren]; rw [ha ver (blt_lt h)]
theorem renL_agree (ha : Agree n ρ ρ') : ∀ cs : List HV, scL n cs = true → renL ρ cs = renL ρ' cs
  | [], _ => rfl
  | c :: cs, h => by
    simp only [scL, Bool.and_eq_true] at h
    simp only [renL]
    rw [HV.ren_agree ha c h.1, renL_agree ha cs h.2]
end
theorem renS_agree (ha : Agree n ρ ρ') : ∀ l, scS n l = true → renS ρ l = renS ρ' l
  | [], _ => rfl
  | (_, c) :: cs, h => by
    simp only [scS, Bool.and_eq_true] at h
    simp only [renS]
    rw [HV.ren_agree ha c h.1, renS_agree ha cs h.2]
theorem renE_agree (ha : Agree n ρ ρ') : ∀ l, scE n l = true → renE ρ l = renE ρ' l
  | [], _ => rfl
  | (_, c) :: cs, h => by
    simp only [scE, Bool.and_eq_true] at h
    simp only [renE]
    rw [HV.ren_agree ha c h.1, renE_agree ha cs h.2]
theorem AObj.ren_agree (ha : Agree n ρ ρ') : ∀ o : AObj, o.sc n = true → o.ren ρ = o.ren ρ'
  | .arr k e cs, h => congrArg (AObj.arr k e) (renL_agree ha cs h)
  | .map es, h => congrArg AObj.map (renE_agree ha es h)
  | .iter mid mver seen cur, h => by simp only [AObj.ren]; rw [ha mver (blt_lt h)]
  | .loop st pend f n' snap ps a b, h => by
    simp only [AObj.sc, Bool.and_eq_true] at h
    simp only [AObj.ren]; rw [ha f (blt_lt h.1), renS_agree ha snap h.2]
theorem renH_agree (ha : Agree n ρ ρ') : ∀ l, scH n l = true → renH ρ l = renH ρ' l
  | [], _ => rfl
  | (i, v, o) :: cs, h => by
    simp only [scH, Bool.and_eq_true] at h
    simp only [renH]
    rw [ha v (blt_lt h.1.1.2), AObj.ren_agree ha o h.1.2, renH_agree ha cs h.2]
theorem AS.ren_agree (ha : Agree n ρ ρ') (s : AS) (h : s.sc n = true) : s.ren ρ = s.ren ρ' := by
  simp only [AS.sc, Bool.and_eq_true] at h
  simp only [AS.ren]
  rw [renS_agree ha _ h.1, renH_agree ha _ h.2]

theorem blt_mono {a : Nat} (hm : n ≤ m) (h : Nat.blt a n = true) : Nat.blt a m = true := by
  have := blt_lt h
  simp [Nat.blt_eq]; omega
mutual
theorem HV.sc_mono (hm : n ≤ m) : ∀ h : HV, h.sc n = true → h.sc m = true
  | .int _ _, _ => rfl
  | .bool _, _ => rfl
  | .str _, _ => rfl
  | .v _, _ => rfl
  | .agg cs, h => scL_mono hm cs h
  | .tup cs, h => scL_mono hm cs h
  | .sl k _ cs, h => scL_mono hm cs h
  | .ar id ver k off _, h => blt_mono hm h
  | .ptr id ver off, h => blt_mono hm h
  | .fptr cs off, h => scL_mono hm cs h
  | .fn f fs cs, h => by
    simp only [HV.sc, Bool.and_eq_true] at h ⊢
    exact ⟨scL_mono hm fs h.1, scL_mono hm cs h.2⟩
  | .mp id ver, h => blt_mono hm h
  | .yl id ver, h => blt_mono hm h
  | .it id ver, h => blt_mono hm h
theorem scL_mono (hm : n ≤ m) : ∀ cs : List HV, scL n cs = true → scL m cs = true
  | [], _ => rfl
  | c :: cs, h => by
    simp only [scL, Bool.and_eq_true] at h ⊢
    exact ⟨HV.sc_mono hm c h.1, scL_mono hm cs h.2⟩
end
theorem scS_mono (hm : n ≤ m) : ∀ l, scS n l = true → scS m l = true
  | [], _ => rfl
  | (_, c) :: cs, h => by
    simp only [scS, Bool.and_eq_true] at h ⊢
    exact ⟨HV.sc_mono hm c h.1, scS_mono hm cs h.2⟩
theorem scE_mono (hm : n ≤ m) : ∀ l, scE n l = true → scE m l = true
  | [], _ => rfl
  | (_, c) :: cs, h => by
    simp only [scE, Bool.and_eq_true] at h ⊢
    exact ⟨HV.sc_mono hm c h.1, scE_mono hm cs h.2⟩
theorem AObj.sc_mono (hm : n ≤ m) : ∀ o : AObj, o.sc n = true → o.sc m = true
  | .arr k e cs, h => scL_mono hm cs h
  | .map es, h => scE_mono hm es h
  | .iter mid mver seen cur, h => blt_mono hm h
  | .loop st pend f n' snap ps a b, h => by
    simp only [AObj.sc, Bool.and_eq_true] at h ⊢
    exact ⟨blt_mono hm h.1, scS_mono hm snap h.2⟩
theorem scH_mono (hm : n ≤ m) : ∀ l, scH n l = true → scH m l = true
  | [], _ => rfl
  | (i, v, o) :: cs, h => by
    simp only [scH, Bool.and_eq_true] at h ⊢
    exact ⟨⟨⟨blt_mono hm h.1.1.1, blt_mono hm h.1.1.2⟩, AObj.sc_mono hm o h.1.2⟩, scH_mono hm cs h.2⟩
theorem AS.sc_mono (hm : n ≤ m) (s : AS) (h : s.sc n = true) : s.sc m = true := by
  simp only [AS.sc, Bool.and_eq_true] at h ⊢
  exact ⟨scS_mono hm _ h.1, scH_mono hm _ h.2⟩

theorem scS_set : ∀ (l : List (Nat × HV)) (t : Nat) (h : HV), scS n l = true → h.sc n = true → scS n (sset l t h) = true
  | [], t, h, _, hh => by simp [sset, scS, hh]
  | (i, g) :: l, t, h, hl, hh => by
    simp only [scS, Bool.and_eq_true] at hl
    simp only [sset]
    split
    · simp [scS, hh, hl.2]
    · simp only [scS, Bool.and_eq_true]
      exact ⟨hl.1, scS_set l t h hl.2 hh⟩
theorem scH_set : ∀ (l : Heap) (t v : Nat) (o : AObj), scH n l = true → t < n → v < n → o.sc n = true → scH n (hset l t v o) = true
  | [], t, v, o, _, ht, hv, hh => by simp [hset, scH, hh, Nat.blt_eq, hv, ht]
  | (i, w, g) :: l, t, v, o, hl, ht, hv, hh => by
    simp only [scH, Bool.and_eq_true] at hl
    simp only [hset]
    split
    · rename_i e
      subst e
      simp [scH, hh, hl.2, Nat.blt_eq, hv, ht]
    · simp only [scH, Bool.and_eq_true]
      exact ⟨hl.1, scH_set l t v o hl.2 ht hv hh⟩
theorem sc_put {s : AS} {d : Option Tmp} {h : HV} (hs : s.sc n = true) (hh : h.sc n = true) : (s.put d h).sc n = true := by
  cases d with
  | none => exact hs
  | some t =>
    simp only [AS.sc, Bool.and_eq_true] at hs
    simp only [AS.put, AS.sc, Bool.and_eq_true]
    exact ⟨scS_set _ _ _ hs.1 hh, hs.2⟩
theorem sc_heap {s : AS} {id v : Nat} {o : AObj} (hs : s.sc n = true) (ht : id < n) (hv : v < n) (hh : o.sc n = true) : ({ s with heap := hset s.heap id v o } : AS).sc n = true := by
  simp only [AS.sc, Bool.and_eq_true] at hs ⊢
  exact ⟨hs.1, scH_set _ _ _ _ hs.2 ht hv hh⟩
theorem sc_get {l : List (Nat × HV)} {t : Nat} {h : HV} (hl : scS n l = true) (hg : sget l t = some h) : h.sc n = true := by
  induction l with
  | nil => cases hg
  | cons x l ih =>
    obtain ⟨i, g⟩ := x
    simp only [scS, Bool.and_eq_true] at hl
    simp only [sget] at hg
    split at hg
    · cases hg; exact hl.1
    · exact ih hl.2 hg
theorem sch_get {l : Heap} {id v : Nat} {o : AObj} (hl : scH n l = true) (hg : hget l id = some (v, o)) : (id < n ∧ v < n) ∧ o.sc n = true := by
  induction l with
  | nil => cases hg
  | cons x l ih =>
    obtain ⟨i, w, g⟩ := x
    simp only [scH, Bool.and_eq_true] at hl
    simp only [hget] at hg
    split at hg
    · rename_i e; subst e; cases hg; exact ⟨⟨blt_lt hl.1.1.1, blt_lt hl.1.1.2⟩, hl.1.2⟩
    · exact ih hl.2 hg
end
end Go.AW

/- The look-ups of the evaluator, by recursors: the kernel evaluates them an order of magnitude faster. -/
namespace Go.AW
open Go

noncomputable def sgetR (l : List (Nat × HV)) : Nat → Option HV :=
  List.rec (motive := fun _ => Nat → Option HV) (fun _ => none) (fun p _ ih t => Bool.rec (motive := fun _ => Option HV) (ih t) (some p.2) (Nat.beq t p.1)) l
noncomputable def ssetR (l : List (Nat × HV)) : Nat → HV → List (Nat × HV) :=
  List.rec (motive := fun _ => Nat → HV → List (Nat × HV)) (fun t v => [(t, v)]) (fun p l ih t v => Bool.rec (motive := fun _ => List (Nat × HV)) (p :: ih t v) ((p.1, v) :: l) (Nat.beq t p.1)) l
noncomputable def hgetR (l : Heap) : Nat → Option (Nat × AObj) :=
  List.rec (motive := fun _ => Nat → Option (Nat × AObj)) (fun _ => none) (fun p _ ih t => Bool.rec (motive := fun _ => Option (Nat × AObj)) (ih t) (some (p.2.1, p.2.2)) (Nat.beq t p.1)) l
noncomputable def hsetR (l : Heap) : Nat → Nat → AObj → Heap :=
  List.rec (motive := fun _ => Nat → Nat → AObj → Heap) (fun t v o => [(t, v, o)]) (fun p l ih t v o => Bool.rec (motive := fun _ => Heap) (p :: ih t v o) ((p.1, v, o) :: l) (Nat.beq t p.1)) l

theorem beq_if {α : Type} (a b : Nat) (x y : α) : Bool.rec (motive := fun _ => α) y x (Nat.beq a b) = if a = b then x else y := by
  by_cases h : a = b
  · subst h
    rw [if_pos rfl, Nat.beq_refl]
  · rw [if_neg h]
    have : Nat.beq a b = false := by
      cases hb : Nat.beq a b with
      | false => rfl
      | true => exact absurd (Nat.eq_of_beq_eq_true hb) h
    rw [this]

theorem sgetR_eq : sgetR = sget := by
  funext l
  induction l with
  | nil => rfl
  | cons p l ih =>
    funext t
    obtain ⟨i, v⟩ := p
    show Bool.rec (motive := fun _ => Option HV) (sgetR l t) (some v) (Nat.beq t i) = _
    rw [beq_if, ih]
    rfl
theorem ssetR_eq : ssetR = sset := by
  funext l
  induction l with
  | nil => rfl
  | cons p l ih =>
    funext t v
    obtain ⟨i, u⟩ := p
    show Bool.rec (motive := fun _ => List (Nat × HV)) ((i, u) :: ssetR l t v) ((i, v) :: l) (Nat.beq t i) = _
    rw [beq_if, ih]
    rfl
theorem hgetR_eq : hgetR = hget := by
  funext l
  induction l with
  | nil => rfl
  | cons p l ih =>
    funext t
    obtain ⟨i, v, o⟩ := p
    show Bool.rec (motive := fun _ => Option (Nat × AObj)) (hgetR l t) (some (v, o)) (Nat.beq t i) = _
    rw [beq_if, ih]
    rfl
theorem hsetR_eq : hsetR = hset := by
  funext l
  induction l with
  | nil => rfl
  | cons p l ih =>
    funext t v o
    obtain ⟨i, u, q⟩ := p
    show Bool.rec (motive := fun _ => Heap) ((i, u, q) :: hsetR l t v o) ((i, v, o) :: l) (Nat.beq t i) = _
    rw [beq_if, ih]
    rfl

noncomputable def AS.evR (s : AS) (x : Operand) : Option HV := match x with
  | .tmp t => sgetR s.slots t
  | .const v => constHV v
  | .global g => some (.v (.pointer (some ⟨g, 0, none⟩)))
  | .func f => some (.fn (.func f) [] [])
theorem evR_eq : AS.evR = AS.ev := by
  funext s x
  cases x with
  | tmp t => show sgetR s.slots t = sget s.slots t; rw [sgetR_eq]
  | const v => rfl
  | global g => rfl
  | func f => rfl

noncomputable def AS.putR (s : AS) (d : Option Tmp) (h : HV) : AS := match d with
  | some t => { s with slots := ssetR s.slots t h }
  | none => s
theorem putR_eq : AS.putR = AS.put := by
  funext s d h
  cases d with
  | none => rfl
  | some t => show ({ s with slots := ssetR s.slots t h } : AS) = { s with slots := sset s.slots t h }; rw [ssetR_eq]

noncomputable def aslR (s : AS) (lo : Option Operand) (d : Int) : Option Int := match lo with
  | none => some d
  | some x => match s.evR x with
    | some (.int _ n) => some n
    | _ => none
theorem aslR_eq : aslR = asl := by
  funext s lo d
  unfold aslR asl
  rw [evR_eq]
  rfl

noncomputable def apartsR (s : AS) (ps : List (Nat × Operand)) : Option (List (Nat × HV)) := ps.mapM fun p => (s.evR p.2).map fun h => (p.1, h)
theorem apartsR_eq : apartsR = aparts := by
  funext s ps
  unfold apartsR aparts
  rw [evR_eq]

def keepL (l : List (Nat × HV)) : List Nat → List (Nat × HV)
  | [] => []
  | t :: ts => match sget l t with
    | some v => (t, v) :: keepL l ts
    | none => keepL l ts
noncomputable def keepK {α : Type} (l : List (Nat × HV)) (ks : List Nat) : (List (Nat × HV) → α) → α :=
  List.rec (motive := fun _ => (List (Nat × HV) → α) → α) (fun k => k []) (fun t _ ih k => match sgetR l t with
    | some v => ih (fun l' => k ((t, v) :: l'))
    | none => ih k) ks
theorem keepK_eq {α : Type} (l : List (Nat × HV)) : ∀ (ks : List Nat) (k : List (Nat × HV) → α), keepK l ks k = k (keepL l ks)
  | [], _ => rfl
  | t :: ts, k => by
    show (match sgetR l t with
      | some v => keepK l ts (fun l' => k ((t, v) :: l'))
      | none => keepK l ts k) = _
    rw [sgetR_eq]
    simp only [keepL]
    cases sget l t with
    | none => exact keepK_eq l ts k
    | some v => exact keepK_eq l ts _

theorem keepL_get {l : List (Nat × HV)} : ∀ {ks : List Nat} {t : Nat} {h : HV}, sget (keepL l ks) t = some h → sget l t = some h
  | [], _, _, h => by cases h
  | k :: ks, t, g, h => by
    simp only [keepL] at h
    cases hk : sget l k with
    | none => rw [hk] at h; exact keepL_get h
    | some v =>
      rw [hk] at h
      simp only [sget] at h
      split at h
      · rename_i e
        subst e
        rw [hk]
        exact h
      · exact keepL_get h
theorem keepL_sc {n : Nat} {l : List (Nat × HV)} (hl : scS n l = true) : ∀ ks : List Nat, scS n (keepL l ks) = true
  | [] => rfl
  | k :: ks => by
    simp only [keepL]
    cases hk : sget l k with
    | none => exact keepL_sc hl ks
    | some v =>
      simp only [scS, Bool.and_eq_true]
      exact ⟨sc_get hl hk, keepL_sc hl ks⟩
theorem keepL_le (ρ : Nat → Nat) (s : AS) (ks : List Nat) : (s.ren ρ).le ((⟨keepL s.slots ks, s.heap⟩ : AS).ren ρ) := by
  refine ⟨fun t hv h => ?_, fun _ _ h => h⟩
  simp only [AS.ren] at h ⊢
  rw [sget_ren] at h ⊢
  cases hk : sget (keepL s.slots ks) t with
  | none => rw [hk] at h; cases h
  | some v => rw [hk] at h; rw [keepL_get hk]; exact h
end Go.AW

/- The evaluation of closed code: what an operation that only computes gives (sval), and that it is what is asked (aval). -/
namespace Go.AW
open Go
set_option linter.unusedSimpArgs false

def TabOk (P : Program) (T : TypeId → Option TyI) : Prop := ∀ t x, T t = some x → ty P t = some x

def sload (T : TyI) (cs : List HV) (off : Nat) : Option HV :=
  bif aggD T.desc then (bif Nat.ble (off + T.size) cs.length then some (.agg ((cs.drop off).take T.size)) else none) else cs[off]?

theorem sload_sound {T : TyI} {cs : List HV} {off : Nat} {h : HV} (hs : sload T cs off = some h) {ρ : Nat → Nat} {R : HV → Prop} (hr : R (h.ren ρ)) : loadK T (renL ρ cs) off R := by
  unfold sload at hs
  unfold loadK
  cases ha : aggD T.desc with
  | true =>
    rw [ha] at hs
    simp only [cond_true, if_true] at hs ⊢
    by_cases hb : Nat.ble (off + T.size) cs.length = true
    · rw [hb] at hs
      cases hs
      refine ⟨by rw [renL_len]; exact Nat.le_of_ble_eq_true hb, ?_⟩
      simpa only [HV.ren, renL_take, renL_drop] using hr
    · simp [Bool.not_eq_true _ ▸ hb] at hs
  | false =>
    rw [ha] at hs
    simp only [cond_false, Bool.false_eq_true, if_false] at hs ⊢
    rw [renL_get, hs]
    exact hr

def sbin (op : BinOp) (x y : HV) : Option HV :=
  match op, x, y with
  | .add, .int k a, .int k' b => if k = k' then some (.int k (k.wrap (a + b))) else none
  | .sub, .int k a, .int k' b => if k = k' then some (.int k (k.wrap (a - b))) else none
  | .mul, .int k a, .int k' b => if k = k' then some (.int k (k.wrap (a * b))) else none
  | .quo, .int k a, .int k' b => if k = k' ∧ b ≠ 0 then some (.int k (k.wrap (a.tdiv b))) else none
  | .rem, .int k a, .int k' b => if k = k' ∧ b ≠ 0 then some (.int k (a.tmod b)) else none
  | .eql, .int k a, .int k' b => if k = k' then some (.bool (decide (a = b))) else none
  | .neq, .int k a, .int k' b => if k = k' then some (.bool (decide (a ≠ b))) else none
  | .lss, .int k a, .int k' b => if k = k' then some (.bool (decide (a < b))) else none
  | .leq, .int k a, .int k' b => if k = k' then some (.bool (decide (a ≤ b))) else none
  | .gtr, .int k a, .int k' b => if k = k' then some (.bool (decide (b < a))) else none
  | .geq, .int k a, .int k' b => if k = k' then some (.bool (decide (b ≤ a))) else none
  | .add, .str a, .str b => if a.length + b.length ≤ maxLen then some (.str (a ++ b)) else none
  | .eql, .str a, .str b => some (.bool (decide (a = b)))
  | .neq, .str a, .str b => some (.bool (decide (a ≠ b)))
  | .lss, .str a, .str b => some (.bool (Op.bytesLess a b))
  | .gtr, .str a, .str b => some (.bool (!(Op.bytesLess a b || decide (a = b))))
  | .leq, .str a, .str b => some (.bool (Op.bytesLess a b || decide (a = b)))
  | .geq, .str a, .str b => some (.bool (!(Op.bytesLess a b)))
  | .shl, .int k a, .int _ b => if 0 ≤ b then some (.int k (k.wrap (a * 2 ^ min b.toNat k.bits))) else none
  | .shr, .int k a, .int _ b => if 0 ≤ b then some (.int k (a.fdiv (2 ^ min b.toNat k.bits))) else none
  | .and, .int k a, .int k' b => if k = k' then some (.int k (k.wrap (BitVec.ofInt k.bits a &&& BitVec.ofInt k.bits b).toNat)) else none
  | .or, .int k a, .int k' b => if k = k' then some (.int k (k.wrap (BitVec.ofInt k.bits a ||| BitVec.ofInt k.bits b).toNat)) else none
  | .xor, .int k a, .int k' b => if k = k' then some (.int k (k.wrap (BitVec.ofInt k.bits a ^^^ BitVec.ofInt k.bits b).toNat)) else none
  | _, _, _ => none

theorem sbin_sound {op : BinOp} {x y h : HV} (hs : sbin op x y = some h) {ρ : Nat → Nat} {R : HV → Prop} (hr : R (h.ren ρ)) : abin op (x.ren ρ) (y.ren ρ) R := by
  unfold sbin at hs
  split at hs <;> first
    | (cases hs; exact hr)
    | (split at hs
       · rename_i hc
         cases hs
         first
           | exact ⟨hc, hr⟩
           | exact ⟨hc.1, hc.2, hr⟩
       · cases hs)
    | cases hs

theorem asl_ren (ρ : Nat → Nat) (s : AS) (lo : Option Operand) (d : Int) : asl (s.ren ρ) lo d = asl s lo d := by
  unfold asl
  cases lo with
  | none => rfl
  | some x =>
    simp only [ev_ren]
    cases s.ev x with
    | none => rfl
    | some h => cases h <;> rfl

def sElem (T : TypeId → Option TyI) (t : TypeId) : Option Nat :=
  match T t with
  | some ⟨.slice e, _, _, _⟩ => (T e).map (·.size)
  | some ⟨.array _ e, _, _, _⟩ => (T e).map (·.size)
  | _ => none

def sField (T : TypeId → Option TyI) (S : TypeId) (f : Nat) : Option (Nat × TyI) :=
  match T S with
  | some ⟨.struct fs, _, _, _⟩ => match fs[f]? with
    | some fd => match T fd.type with
      | some U => if U.size = 0 then none else some (fd.offset, U)
      | none => none
    | none => none
  | _ => none

section
variable {P : Program} {T : TypeId → Option TyI}

theorem sElem_sound (hT : TabOk P T) {t : TypeId} {k : Nat} (h : sElem T t = some k) : elemSize P t = some k := by
  unfold sElem at h
  split at h
  · rename_i e _ _ _ ht
    obtain ⟨U, hU, rfl⟩ := Option.map_eq_some_iff.1 h
    simp [elemSize, hT _ _ ht, hT _ _ hU]
  · rename_i n e _ _ _ ht
    obtain ⟨U, hU, rfl⟩ := Option.map_eq_some_iff.1 h
    simp [elemSize, hT _ _ ht, hT _ _ hU]
  · cases h

theorem sField_sound (hT : TabOk P T) {S : TypeId} {f : Nat} {r : Nat × TyI} (h : sField T S f = some r) : fieldOf P S f = some r := by
  unfold sField at h
  split at h
  · rename_i fs _ _ _ ht
    split at h
    · rename_i fd hfd
      split at h
      · rename_i U hU
        split at h
        · cases h
        · rename_i h0
          cases h
          simp [fieldOf, hT _ _ ht, hfd, hT _ _ hU, h0]
      · cases h
    · cases h
  · cases h
end

noncomputable def aliveB (H : Heap) (id ver : Nat) : Bool := match hgetR H id with
  | some (v, _) => Nat.beq v ver
  | none => false

theorem aliveB_sound {H : Heap} {id ver : Nat} {ρ : Nat → Nat} (h : aliveB H id ver = true) : alive (renH ρ H) id (ρ ver) := by
  unfold aliveB at h
  rw [hgetR_eq] at h
  unfold alive
  rw [hget_ren]
  cases hg : hget H id with
  | none => rw [hg] at h; cases h
  | some x =>
    obtain ⟨v, o⟩ := x
    rw [hg] at h
    have : v = ver := Nat.eq_of_beq_eq_true h
    simp [this]

def guardO {α : Type} (c : Bool) (x : Option α) : Option α := match c with
  | true => x
  | false => none
theorem guardO_some {α : Type} {c : Bool} {x : Option α} {y : α} (h : guardO c x = some y) : c = true ∧ x = some y := by
  cases c with
  | true => exact ⟨rfl, h⟩
  | false => cases h

def sbinT (T : TypeId → Option TyI) (op : BinOp) (tx : TypeId) (x y : HV) : Option HV :=
  match x, y with
  | .bool a, .bool b => match op, T tx with
    | .eql, some ⟨.bool, _, _, _⟩ => some (.bool (a == b))
    | .neq, some ⟨.bool, _, _, _⟩ => some (.bool (!(a == b)))
    | _, _ => none
  | _, _ => sbin op x y

theorem sbinT_sound {P : Program} {T : TypeId → Option TyI} (hT : TabOk P T) {op : BinOp} {tx : TypeId} {x y h : HV} (hs : sbinT T op tx x y = some h) {ρ : Nat → Nat} {R : HV → Prop} (hr : R (h.ren ρ)) : abinT P op tx (x.ren ρ) (y.ren ρ) R := by
  unfold sbinT at hs
  split at hs
  · split at hs
    · rename_i hU
      cases hs
      simp only [HV.ren, abinT, hT _ _ hU]
      exact hr
    · rename_i hU
      cases hs
      simp only [HV.ren, abinT, hT _ _ hU]
      exact hr
    · cases hs
  · rename_i hno
    have := sbin_sound hs hr
    unfold abinT
    split
    · rename_i e1 e2
      exfalso
      cases x with
      | bool a => cases y with
        | bool b => exact hno _ _ rfl rfl
        | _ => cases e2
      | _ => cases e1
    · rename_i e1 e2
      exfalso
      cases x with
      | agg a => simp [sbin] at hs
      | _ => cases e1
    · exact this

noncomputable def svPick (s : AS) (c a b : Operand) : Option HV := match s.evR c, s.evR a, s.evR b with
    | some (.bool true), some h, some _ => some h
    | some (.bool false), some _, some h => some h
    | _, _, _ => none
noncomputable def svLoad (T : TypeId → Option TyI) (s : AS) (t : TypeId) (a : Operand) : Option HV := match T t, s.evR a with
    | some U, some (.fptr cs off) => sload U cs off
    | some U, some (.ptr id ver off) => match hgetR s.heap id with
      | some (ver', .arr _ _ cs) => guardO (Nat.beq ver ver') (sload U cs off)
      | _ => none
    | _, _ => none
noncomputable def svNil (s : AS) (x : Operand) : Option HV := match s.evR x with
    | some (.ptr id ver off) => guardO (aliveB s.heap id ver) (some (.ptr id ver off))
    | some (.fptr cs off) => some (.fptr cs off)
    | _ => none
noncomputable def svBin (T : TypeId → Option TyI) (s : AS) (op : BinOp) (tx : TypeId) (x y : Operand) : Option HV := match s.evR x, s.evR y with
    | some h, some g => sbinT T op tx h g
    | _, _ => none
noncomputable def svUn (s : AS) (op : UnOp) (x : Operand) : Option HV := match op, s.evR x with
    | .not, some (.bool b) => some (.bool (!b))
    | .neg, some (.int k n) => some (.int k (k.wrap (0 - n)))
    | _, _ => none
noncomputable def svConv (T : TypeId → Option TyI) (s : AS) (src dst : TypeId) (x : Operand) : Option HV := match T src, T dst, s.evR x with
    | some _, some ⟨.int k, _, _, _⟩, some (.int _ n) => some (.int k (k.wrap n))
    | some _, some ⟨.string, _, _, _⟩, some (.int _ n) => some (.str (Utf8.encode n).data.toList)
    | some _, some ⟨.string, _, _, _⟩, some (.str l) => some (.str l)
    | _, _, _ => none
noncomputable def svFunc (s : AS) (fn : Fn) (first caps : Array Operand) : Option HV := match first.toList.mapM s.evR, caps.toList.mapM s.evR with
    | some fs, some cs => some (.fn fn fs cs)
    | _, _ => none
noncomputable def svFieldAddr (T : TypeId → Option TyI) (s : AS) (S : TypeId) (x : Operand) (f : Nat) : Option HV := match sField T S f, s.evR x with
    | some (o, _), some (.ptr id ver off) => guardO (aliveB s.heap id ver) (some (.ptr id ver (off + o)))
    | some (o, _), some (.fptr cs off) => some (.fptr cs (off + o))
    | _, _ => none
noncomputable def svField (T : TypeId → Option TyI) (s : AS) (S : TypeId) (x : Operand) (f : Nat) : Option HV := match sField T S f, s.evR x with
    | some (o, U), some (.agg cs) => sload U cs o
    | _, _ => none
noncomputable def svIndexAddr (T : TypeId → Option TyI) (s : AS) (t : TypeId) (x i : Operand) : Option HV := match T t, sElem T t, s.evR x, s.evR i with
    | some ⟨.slice _, _, _, _⟩, some k', some (.sl k n cs), some (.int _ j) => guardO (decide (k = k' ∧ 0 ≤ j ∧ j < n)) (some (.fptr cs (j.toNat * k)))
    | some ⟨.slice _, _, _, _⟩, some k', some (.ar id ver k off n), some (.int _ j) => guardO (decide (k = k' ∧ 0 ≤ j ∧ j < n)) (guardO (aliveB s.heap id ver) (some (.ptr id ver (off + j.toNat * k))))
    | some ⟨.array len _, _, _, _⟩, some k', some (.ptr id ver off), some (.int _ j) => guardO (decide (0 ≤ j ∧ j < len)) (guardO (aliveB s.heap id ver) (some (.ptr id ver (off + j.toNat * k'))))
    | some ⟨.array len _, _, _, _⟩, some k', some (.fptr cs off), some (.int _ j) => guardO (decide (0 ≤ j ∧ j < len)) (some (.fptr cs (off + j.toNat * k')))
    | _, _, _, _ => none
noncomputable def svIndex (T : TypeId → Option TyI) (s : AS) (t : TypeId) (x i : Operand) : Option HV := match T t, s.evR x, s.evR i with
    | some ⟨.string, _, _, _⟩, some (.str l), some (.int _ j) => guardO (decide (0 ≤ j)) (match l[j.toNat]? with
      | some b => some (.int .u8 b.toNat)
      | none => none)
    | some ⟨.array len e, _, _, _⟩, some (.agg cs), some (.int _ j) => guardO (decide (0 ≤ j ∧ j < len)) (match T e with
      | some U => sload U cs (j.toNat * U.size)
      | none => none)
    | _, _, _ => none
noncomputable def svExtract (s : AS) (x : Operand) (i : Nat) : Option HV := match s.evR x with
    | some (.tup vs) => vs[i]?
    | _ => none
noncomputable def svSlice (T : TypeId → Option TyI) (s : AS) (t : TypeId) (x : Operand) (lo hi : Option Operand) : Option HV := match T t, sElem T t, s.evR x with
    | some ⟨.string, _, _, _⟩, _, some (.str l) => match aslR s lo 0, aslR s hi l.length with
      | some a, some b => guardO (decide (0 ≤ a ∧ a ≤ b ∧ b ≤ l.length)) (some (.str ((l.take b.toNat).drop a.toNat)))
      | _, _ => none
    | some ⟨.slice _, _, _, _⟩, some k', some (.sl k n cs) => match aslR s lo 0, aslR s hi n with
      | some a, some b => guardO (decide (k = k' ∧ 0 ≤ a ∧ a ≤ b ∧ b ≤ n)) (some (.sl k (b.toNat - a.toNat) ((cs.take (b.toNat * k)).drop (a.toNat * k))))
      | _, _ => none
    | some ⟨.slice _, _, _, _⟩, some k', some (.ar id ver k off n) => match aslR s lo 0, aslR s hi n with
      | some a, some b => guardO (decide (k = k' ∧ 0 ≤ a ∧ a ≤ b ∧ b ≤ n ∧ (a = 0 ∨ a < n))) (guardO (aliveB s.heap id ver) (some (.ar id ver k (off + a.toNat * k) (b.toNat - a.toNat))))
      | _, _ => none
    | _, _, _ => none
noncomputable def svCall (T : TypeId → Option TyI) (s : AS) (c : Call) : Option HV := match c.callee, c.argTypes.toList, c.args.toList with
    | .builtin .len, [t], [x] => match T t, s.evR x with
      | some ⟨.string, _, _, _⟩, some (.str l) => some (.int .i64 l.length)
      | some ⟨.slice _, _, _, _⟩, some (.sl _ n _) => some (.int .i64 n)
      | some ⟨.slice _, _, _, _⟩, some (.ar id ver _ _ n) => guardO (aliveB s.heap id ver) (some (.int .i64 n))
      | some ⟨.slice _, _, _, _⟩, some (.v (.slice none 0 0)) => some (.int .i64 0)
      | some ⟨.map _ _, _, _, _⟩, some (.v (.map none)) => some (.int .i64 0)
      | some ⟨.map _ _, _, _, _⟩, some (.mp id ver) => match hgetR s.heap id with
        | some (ver', .map es) => guardO (Nat.beq ver ver' && Nat.ble es.length maxLen) (some (.int .i64 es.length))
        | _ => none
      | _, _ => none
    | .builtin .min, _, [x, y] => match s.evR x, s.evR y with
      | some (.int k a), some (.int k' c) => guardO (decide (k = k')) (some (.int k (min a c)))
      | _, _ => none
    | .builtin .max, _, [x, y] => match s.evR x, s.evR y with
      | some (.int k a), some (.int k' c) => guardO (decide (k = k')) (some (.int k (max a c)))
      | _, _ => none
    | .builtin .min, _, [x, y, z] => match s.evR x, s.evR y, s.evR z with
      | some (.int k a), some (.int k' c), some (.int k'' d) => guardO (decide (k = k' ∧ k = k'')) (some (.int k (min (min a c) d)))
      | _, _, _ => none
    | .builtin .max, _, [x, y, z] => match s.evR x, s.evR y, s.evR z with
      | some (.int k a), some (.int k' c), some (.int k'' d) => guardO (decide (k = k' ∧ k = k'')) (some (.int k (max (max a c) d)))
      | _, _, _ => none
    | _, _, _ => none

noncomputable def sval (T : TypeId → Option TyI) (op : Op) (s : AS) : Option HV :=
  match op with
  | .move x => s.evR x
  | .assign x => s.evR x
  | .pick c a b => svPick s c a b
  | .load t a => svLoad T s t a
  | .nilCheck x => svNil s x
  | .binOp op tx x y _ => svBin T s op tx x y
  | .unOp op _ x => svUn s op x
  | .convert src dst x => svConv T s src dst x
  | .makeFunc fn first caps => svFunc s fn first caps
  | .fieldAddr S x f => svFieldAddr T s S x f
  | .field S x f => svField T s S x f
  | .indexAddr t x i => svIndexAddr T s t x i
  | .index t x i => svIndex T s t x i
  | .extract x i => svExtract s x i
  | .slice t x lo hi none => svSlice T s t x lo hi
  | .call c => svCall T s c
  | _ => none

theorem renE_len (ρ : Nat → Nat) : ∀ l, (renE ρ l).length = l.length
  | [] => rfl
  | _ :: l => by simp [renE, renE_len ρ l]

theorem hget_s (ρ : Nat → Nat) {s : AS} {id v : Nat} {o : AObj} (h : hget s.heap id = some (v, o)) : hget (s.ren ρ).heap id = some (ρ v, o.ren ρ) := by
  show hget (renH ρ s.heap) id = _
  rw [hget_ren, h]
  rfl

section
variable {P : Program} {T : TypeId → Option TyI} {s : AS} {ρ : Nat → Nat} {R : HV → Prop}

theorem sval_sound (hT : TabOk P T) {op : Op} {r : HV} (h : sval T op s = some r) (hr : R (r.ren ρ)) : aval P op (s.ren ρ) R := by
  unfold sval at h
  simp only [evR_eq, hgetR_eq, hsetR_eq, sgetR_eq, putR_eq, aslR_eq, apartsR_eq] at h
  split at h
  · simp only [aval, ev_ren, h, Option.map_some]; exact hr
  · simp only [aval, ev_ren, h, Option.map_some]; exact hr
  · -- pick
    unfold svPick at h
    try simp only [evR_eq, hgetR_eq, hsetR_eq, sgetR_eq, putR_eq, aslR_eq, apartsR_eq] at h
    rename_i c a b
    split at h
    · rename_i h1 g hc ha hb
      cases h
      simp only [aval, ev_ren, hc, ha, hb, Option.map_some, HV.ren]
      split
      all_goals simp_all
    · rename_i g h1 hc ha hb
      cases h
      simp only [aval, ev_ren, hc, ha, hb, Option.map_some, HV.ren]
      split
      all_goals simp_all
    · cases h
  · -- load
    unfold svLoad at h
    try simp only [evR_eq, hgetR_eq, hsetR_eq, sgetR_eq, putR_eq, aslR_eq, apartsR_eq] at h
    split at h
    · rename_i U cs off hU hx
      simp only [aval, ev_ren, hT _ _ hU, hx, Option.map_some, HV.ren]
      exact sload_sound h hr
    · rename_i U id ver off hU hx
      split at h
      · rename_i ver' k e cs hg
        obtain ⟨hv, h'⟩ := guardO_some h
        have hv := Nat.eq_of_beq_eq_true hv
        subst hv
        simp only [aval, ev_ren, hT _ _ hU, hx, Option.map_some, HV.ren, hget_s ρ hg, AObj.ren]
        exact ⟨trivial, sload_sound h' hr⟩
      · cases h
    · cases h
  · -- nilCheck
    unfold svNil at h
    try simp only [evR_eq, hgetR_eq, hsetR_eq, sgetR_eq, putR_eq, aslR_eq, apartsR_eq] at h
    split at h
    · rename_i id ver off hx
      obtain ⟨hv, h⟩ := guardO_some h
      cases h
      have := aliveB_sound (ρ := ρ) hv
      simp only [aval, ev_ren, hx, Option.map_some, HV.ren]
      unfold alive at this
      have e : (s.ren ρ).heap = renH ρ s.heap := rfl
      rw [e]
      cases hh : hget (renH ρ s.heap) id with
      | none => rw [hh] at this; exact this
      | some x => rw [hh] at this; exact ⟨this.symm, hr⟩
    · rename_i cs off hx
      cases h
      simp only [aval, ev_ren, hx, Option.map_some, HV.ren]
      exact hr
    · cases h
  · -- binOp
    unfold svBin at h
    try simp only [evR_eq, hgetR_eq, hsetR_eq, sgetR_eq, putR_eq, aslR_eq, apartsR_eq] at h
    split at h
    · rename_i x y hx hy
      simp only [aval, ev_ren, hx, hy, Option.map_some]
      exact sbinT_sound hT h hr
    · cases h
  · -- unOp
    unfold svUn at h
    try simp only [evR_eq, hgetR_eq, hsetR_eq, sgetR_eq, putR_eq, aslR_eq, apartsR_eq] at h
    split at h
    · rename_i b hx
      cases h
      simp only [aval, ev_ren, hx, Option.map_some, HV.ren]
      exact hr
    · rename_i k n hx
      cases h
      simp only [aval, ev_ren, hx, Option.map_some, HV.ren]
      exact hr
    · cases h
  · -- convert
    unfold svConv at h
    try simp only [evR_eq, hgetR_eq, hsetR_eq, sgetR_eq, putR_eq, aslR_eq, apartsR_eq] at h
    split at h
    · rename_i U k _ _ _ k0 n hU hD hx
      cases h
      simp only [aval, ev_ren, hT _ _ hU, hT _ _ hD, hx, Option.map_some, HV.ren]
      exact hr
    · rename_i U _ _ _ k0 n hU hD hx
      cases h
      simp only [aval, ev_ren, hT _ _ hU, hT _ _ hD, hx, Option.map_some, HV.ren]
      exact hr
    · rename_i U _ _ _ l hU hD hx
      cases h
      simp only [aval, ev_ren, hT _ _ hU, hT _ _ hD, hx, Option.map_some, HV.ren]
      exact hr
    · cases h
  · -- makeFunc
    unfold svFunc at h
    try simp only [evR_eq, hgetR_eq, hsetR_eq, sgetR_eq, putR_eq, aslR_eq, apartsR_eq] at h
    split at h
    · rename_i fs cs hf hc
      cases h
      simp only [aval, evL_ren, hf, hc, Option.map_some]
      exact hr
    · cases h
  · -- fieldAddr
    unfold svFieldAddr at h
    try simp only [evR_eq, hgetR_eq, hsetR_eq, sgetR_eq, putR_eq, aslR_eq, apartsR_eq] at h
    split at h
    · rename_i o U id ver off hF hx
      obtain ⟨hv, h⟩ := guardO_some h
      cases h
      simp only [aval, sField_sound hT hF, ev_ren, hx, Option.map_some, HV.ren]
      exact ⟨aliveB_sound hv, hr⟩
    · rename_i o U cs off hF hx
      cases h
      simp only [aval, sField_sound hT hF, ev_ren, hx, Option.map_some, HV.ren]
      exact hr
    · cases h
  · -- field
    unfold svField at h
    try simp only [evR_eq, hgetR_eq, hsetR_eq, sgetR_eq, putR_eq, aslR_eq, apartsR_eq] at h
    split at h
    · rename_i o U cs hF hx
      simp only [aval, sField_sound hT hF, ev_ren, hx, Option.map_some, HV.ren]
      exact sload_sound h hr
    · cases h
  · -- indexAddr
    unfold svIndexAddr at h
    try simp only [evR_eq, hgetR_eq, hsetR_eq, sgetR_eq, putR_eq, aslR_eq, apartsR_eq] at h
    split at h
    · rename_i e _ _ _ k' k n cs kk j hU hE hx hi
      obtain ⟨hv, h⟩ := guardO_some h
      cases h
      simp only [aval, hT _ _ hU, sElem_sound hT hE, ev_ren, hx, hi, Option.map_some, HV.ren]
      obtain ⟨h1, h2, h3⟩ := of_decide_eq_true hv
      exact ⟨h1, h2, h3, hr⟩
    · rename_i e _ _ _ k' id ver k off n kk j hU hE hx hi
      obtain ⟨hv, h⟩ := guardO_some h
      obtain ⟨ha, h⟩ := guardO_some h
      cases h
      simp only [aval, hT _ _ hU, sElem_sound hT hE, ev_ren, hx, hi, Option.map_some, HV.ren]
      obtain ⟨h1, h2, h3⟩ := of_decide_eq_true hv
      exact ⟨h1, h2, h3, aliveB_sound ha, hr⟩
    · rename_i len e _ _ _ k' id ver off kk j hU hE hx hi
      obtain ⟨hv, h⟩ := guardO_some h
      obtain ⟨ha, h⟩ := guardO_some h
      cases h
      simp only [aval, hT _ _ hU, sElem_sound hT hE, ev_ren, hx, hi, Option.map_some, HV.ren]
      obtain ⟨h1, h2⟩ := of_decide_eq_true hv
      exact ⟨h1, h2, aliveB_sound ha, hr⟩
    · rename_i len e _ _ _ k' cs off kk j hU hE hx hi
      obtain ⟨hv, h⟩ := guardO_some h
      cases h
      simp only [aval, hT _ _ hU, sElem_sound hT hE, ev_ren, hx, hi, Option.map_some, HV.ren]
      obtain ⟨h1, h2⟩ := of_decide_eq_true hv
      exact ⟨h1, h2, hr⟩
    · cases h
  · -- index
    unfold svIndex at h
    try simp only [evR_eq, hgetR_eq, hsetR_eq, sgetR_eq, putR_eq, aslR_eq, apartsR_eq] at h
    split at h
    · rename_i _ _ _ l k j hU hx hi
      obtain ⟨hv, h⟩ := guardO_some h
      split at h
      · rename_i b hb
        cases h
        simp only [aval, hT _ _ hU, ev_ren, hx, hi, Option.map_some, HV.ren, hb]
        exact ⟨of_decide_eq_true hv, hr⟩
      · cases h
    · rename_i len e _ _ _ cs k j hU hx hi
      obtain ⟨hv, h⟩ := guardO_some h
      split at h
      · rename_i U hE
        simp only [aval, hT _ _ hU, ev_ren, hx, hi, Option.map_some, HV.ren, hT _ _ hE]
        obtain ⟨h1, h2⟩ := of_decide_eq_true hv
        exact ⟨h1, h2, sload_sound h hr⟩
      · cases h
    · cases h
  · -- extract
    unfold svExtract at h
    try simp only [evR_eq, hgetR_eq, hsetR_eq, sgetR_eq, putR_eq, aslR_eq, apartsR_eq] at h
    split at h
    · rename_i vs hx
      simp only [aval, ev_ren, hx, Option.map_some, HV.ren, renL_get, h]
      exact hr
    · cases h
  · -- slice
    unfold svSlice at h
    try simp only [evR_eq, hgetR_eq, hsetR_eq, sgetR_eq, putR_eq, aslR_eq, apartsR_eq] at h
    split at h
    · rename_i _ _ _ l hU hx
      split at h
      · rename_i a b ha hb
        obtain ⟨hv, h⟩ := guardO_some h
        cases h
        simp only [aval, hT _ _ hU, ev_ren, hx, Option.map_some, HV.ren, asl_ren, ha, hb]
        obtain ⟨h1, h2, h3⟩ := of_decide_eq_true hv
        exact ⟨h1, h2, h3, hr⟩
      · cases h
    · rename_i e _ _ _ k' k n cs hU hE hx
      split at h
      · rename_i a b ha hb
        obtain ⟨hv, h⟩ := guardO_some h
        cases h
        simp only [aval, hT _ _ hU, sElem_sound hT hE, ev_ren, hx, Option.map_some, HV.ren, asl_ren, ha, hb]
        obtain ⟨h1, h2, h3, h4⟩ := of_decide_eq_true hv
        refine ⟨h1, h2, h3, h4, ?_⟩
        rw [← renL_take, ← renL_drop]
        exact hr
      · cases h
    · rename_i e _ _ _ k' id ver k off n hU hE hx
      split at h
      · rename_i a b ha hb
        obtain ⟨hv, h⟩ := guardO_some h
        obtain ⟨hl, h⟩ := guardO_some h
        cases h
        simp only [aval, hT _ _ hU, sElem_sound hT hE, ev_ren, hx, Option.map_some, HV.ren, asl_ren, ha, hb]
        obtain ⟨h1, h2, h3, h4, h5⟩ := of_decide_eq_true hv
        exact ⟨h1, h2, h3, h4, h5, aliveB_sound hl, hr⟩
      · cases h
    · cases h
  · -- call
    unfold svCall at h
    try simp only [evR_eq, hgetR_eq, hsetR_eq, sgetR_eq, putR_eq, aslR_eq, apartsR_eq] at h
    split at h
    · rename_i c t x hc ht hx
      split at h
      · rename_i _ _ _ l hU hl
        cases h
        simp only [aval, hc, ht, hx, hT _ _ hU, ev_ren, hl, Option.map_some, HV.ren]; exact hr
      · rename_i e _ _ _ k n cs hU hl
        cases h
        simp only [aval, hc, ht, hx, hT _ _ hU, ev_ren, hl, Option.map_some, HV.ren]; exact hr
      · rename_i e _ _ _ id ver k off n hU hl
        obtain ⟨hv, h⟩ := guardO_some h
        cases h
        simp only [aval, hc, ht, hx, hT _ _ hU, ev_ren, hl, Option.map_some, HV.ren]; exact ⟨aliveB_sound hv, hr⟩
      · rename_i e _ _ _ hU hl
        cases h
        simp only [aval, hc, ht, hx, hT _ _ hU, ev_ren, hl, Option.map_some, HV.ren]; exact hr
      · rename_i e _ _ _ hU hl
        cases h
        simp only [aval, hc, ht, hx, hT _ _ hU, ev_ren, hl, Option.map_some, HV.ren]; exact hr
      · rename_i e _ _ _ _ id ver hU hl
        split at h
        · rename_i ver' es hg
          obtain ⟨hv, h⟩ := guardO_some h
          cases h
          simp only [Bool.and_eq_true] at hv
          have hve := Nat.eq_of_beq_eq_true hv.1
          subst hve
          simp only [aval, hc, ht, hx, hT _ _ hU, ev_ren, hl, Option.map_some, HV.ren, hget_s ρ hg, AObj.ren, renE_len]
          exact ⟨trivial, Nat.le_of_ble_eq_true hv.2, hr⟩
        · cases h
      · cases h
    · rename_i c x y hc hx
      split at h
      · rename_i k a k' b ha hb
        obtain ⟨hv, h⟩ := guardO_some h
        cases h
        simp only [aval, hc, hx, ev_ren, ha, hb, Option.map_some, HV.ren]
        exact ⟨.inl trivial, of_decide_eq_true hv, hr⟩
      · cases h
    · rename_i c x y hc hx
      split at h
      · rename_i k a k' b ha hb
        obtain ⟨hv, h⟩ := guardO_some h
        cases h
        simp only [aval, hc, hx, ev_ren, ha, hb, Option.map_some, HV.ren]
        exact ⟨.inr trivial, of_decide_eq_true hv, hr⟩
      · cases h
    · rename_i c x y z hc hx
      split at h
      · rename_i k a k' b k'' d ha hb hd
        obtain ⟨hv, h⟩ := guardO_some h
        cases h
        simp only [aval, hc, hx, ev_ren, ha, hb, hd, Option.map_some, HV.ren]
        obtain ⟨h1, h2⟩ := of_decide_eq_true hv
        exact ⟨.inl trivial, h1, h2, hr⟩
      · cases h
    · rename_i c x y z hc hx
      split at h
      · rename_i k a k' b k'' d ha hb hd
        obtain ⟨hv, h⟩ := guardO_some h
        cases h
        simp only [aval, hc, hx, ev_ren, ha, hb, hd, Option.map_some, HV.ren]
        obtain ⟨h1, h2⟩ := of_decide_eq_true hv
        exact ⟨.inr trivial, h1, h2, hr⟩
      · cases h
    · cases h
  · cases h
end
end Go.AW

/- The evaluation of closed code: operations that change something, what a task's evaluation says. -/
namespace Go.AW
open Go
set_option linter.unusedSimpArgs false

def LoopKeep (H H' : Heap) : Prop := ∀ id v st pend f n snap ps a b, hget H id = some (v, .loop st pend f n snap ps a b) → ∀ x, hget H' id = some x → ∃ st' pend', x = (v, .loop st' pend' f n snap ps a b)

theorem LoopKeep.refl (H : Heap) : LoopKeep H H := fun _ _ _ _ _ _ _ _ _ _ h x hx => by rw [h] at hx; cases hx; exact ⟨_, _, rfl⟩
theorem LoopKeep.set {H : Heap} {id v : Nat} {o : AObj} (h : ∀ v st pend f n snap ps a b, hget H id ≠ some (v, .loop st pend f n snap ps a b)) : LoopKeep H (hset H id v o) := by
  intro j u st pend f n snap ps a b hj x hx
  rw [hget_hset] at hx
  split at hx
  · rename_i e; subst e; exact absurd hj (h _ _ _ _ _ _ _ _ _)
  · rw [hj] at hx; cases hx; exact ⟨_, _, rfl⟩
theorem LoopKeep.setL {H : Heap} {id v : Nat} {st st' : LoopState} {pend pend' : Option Code} {f n : Nat} {snap : List (Nat × HV)} {ps : Array Tmp} {a b : Code}
    (h : hget H id = some (v, .loop st pend f n snap ps a b)) : LoopKeep H (hset H id v (.loop st' pend' f n snap ps a b)) := by
  intro j u st2 pend2 f2 n2 snap2 ps2 a2 b2 hj x hx
  rw [hget_hset] at hx
  split at hx
  · rename_i e; subst e; rw [h] at hj; cases hj; cases hx; exact ⟨_, _, rfl⟩
  · rw [hj] at hx; cases hx; exact ⟨_, _, rfl⟩
theorem LoopKeep.trans {H H1 H2 : Heap} (h : LoopKeep H H1) (h' : LoopKeep H1 H2) (hd : ∀ id x, hget H id = some x → ∀ y, hget H2 id = some y → ∃ z, hget H1 id = some z) : LoopKeep H H2 := by
  intro j u st pend f n snap ps a b hj x hx
  obtain ⟨z, hz⟩ := hd j _ hj x hx
  obtain ⟨st1, p1, rfl⟩ := h _ _ _ _ _ _ _ _ _ _ hj z hz
  exact h' _ _ _ _ _ _ _ _ _ _ hz x hx

def Back (n : Nat) (H H' : Heap) : Prop := ∀ id, id < n → ∀ y, hget H' id = some y → ∃ z, hget H id = some z
theorem Back.refl (n : Nat) (H : Heap) : Back n H H := fun _ _ y h => ⟨y, h⟩
theorem Back.trans {n m : Nat} {H H1 H2 : Heap} (h : Back n H H1) (hn : n ≤ m) (h' : Back m H1 H2) : Back n H H2 := fun id hid y hy => by
  obtain ⟨z, hz⟩ := h' id (by omega) y hy
  exact h id hid z hz
theorem Back.set {n id v : Nat} {H : Heap} {o : AObj} (h : n ≤ id ∨ ∃ x, hget H id = some x) : Back n H (hset H id v o) := fun j hj y hy => by
  rw [hget_hset] at hy
  split at hy
  · rename_i e; subst e; exact h.elim (fun h => by omega) id
  · exact ⟨y, hy⟩

theorem sch_lt {n id : Nat} {H : Heap} {x : Nat × AObj} (h : scH n H = true) (hg : hget H id = some x) : id < n := (sch_get (o := x.2) (v := x.1) h hg).1.1
theorem sch_fresh {n : Nat} {H : Heap} (h : scH n H = true) : hget H n = none := by
  cases hg : hget H n with
  | none => rfl
  | some x => exact absurd (sch_lt h hg) (by omega)

structure Step (n n' : Nat) (H H' : Heap) : Prop where
  le : n ≤ n'
  loop : LoopKeep H H'
  back : Back n H H'

theorem Step.refl (n : Nat) (H : Heap) : Step n n H H := ⟨Nat.le_refl _, LoopKeep.refl H, Back.refl n H⟩
theorem Step.trans {n n1 n2 : Nat} {H H1 H2 : Heap} (hs : scH n H = true) (h : Step n n1 H H1) (h' : Step n1 n2 H1 H2) : Step n n2 H H2 :=
  ⟨Nat.le_trans h.le h'.le, h.loop.trans h'.loop fun id x hx y hy => h'.back id (Nat.lt_of_lt_of_le (sch_lt hs hx) h.le) y hy, h.back.trans h.le h'.back⟩

inductive Task where
  | code (top : Bool) (N : Nat) (c : Code) (s : AS) (n : Nat)
  | call (f : FuncId) (args : List HV) (H : Heap) (n : Nat)

inductive Out where
  | code (e : Exit) (s : AS) (n : Nat)
  | call (rv : HV) (H : Heap) (n : Nat)

def Sem (P : Program) : Task → Out → Prop
  | .code top N c s n, .code e s' n' => s.sc n = true → s'.sc n' = true ∧ Step n n' s.heap s'.heap ∧
      ∀ (ρ : Nat → Nat) (ro : Option Nat) (Q : Exit → AS → Prop), (top = true → ro = none) → (∀ ρ', Agree n ρ ρ' → Q e (s'.ren ρ')) → AW P ro N c Q (s.ren ρ)
  | .call f args H n, .call rv H' n' => scL n args = true → scH n H = true → rv.sc n' = true ∧ scH n' H' = true ∧ Step n n' H H' ∧
      ∀ (ρ : Nat → Nat) (K : HV → Heap → Prop), (∀ ρ', Agree n ρ ρ' → K (rv.ren ρ') (renH ρ' H')) → ACall P f (renL ρ args) (renH ρ H) K
  | _, _ => False

def Good (P : Program) (r : Task → Option Out) : Prop := ∀ t o, r t = some o → Sem P t o

def OpOk (P : Program) (N : Nat) (o : Oper) (s : AS) (n : Nat) (s' : AS) (n' : Nat) : Prop := s'.sc n' = true ∧ Step n n' s.heap s'.heap ∧
  ∀ (ρ : Nat → Nat) (ro : Option Nat) (K : AS → Prop), (∀ ρ', Agree n ρ ρ' → K (s'.ren ρ')) → AOp P ro N o K (s.ren ρ)

noncomputable def fin (s : AS) (n : Nat) (d : Option Tmp) (h : HV) : Option (AS × Nat) := guardO (h.sc n) (some (s.putR d h, n))
noncomputable def new (s : AS) (n : Nat) (d : Option Tmp) (id : Nat) (o : AObj) (h : HV) : Option (AS × Nat) := guardO (o.sc n) (some (({ s with heap := hsetR s.heap id n o } : AS).putR d h, n + 1))

section
variable {P : Program} {N n n' : Nat} {o : Oper} {s s' : AS}

theorem sc_heap_of (hs : s.sc n = true) : scH n s.heap = true := by
  simp only [AS.sc, Bool.and_eq_true] at hs; exact hs.2
theorem sc_slots_of (hs : s.sc n = true) : scS n s.slots = true := by
  simp only [AS.sc, Bool.and_eq_true] at hs; exact hs.1

theorem put_heap' (s : AS) (d : Option Tmp) (h : HV) : (s.put d h).heap = s.heap := by cases d <;> rfl

theorem fin_ok {h : HV} (hs : s.sc n = true) (he : fin s n o.dst h = some (s', n')) (hk : ∀ (ρ : Nat → Nat) (ro : Option Nat) (K : AS → Prop), K ((s.ren ρ).put o.dst (h.ren ρ)) → AOp P ro N o K (s.ren ρ)) : OpOk P N o s n s' n' := by
  unfold fin at he
  rw [putR_eq] at he
  obtain ⟨h1, h2⟩ := guardO_some he
  cases h2
  refine ⟨sc_put hs h1, by rw [put_heap']; exact Step.refl _ _, fun ρ ro K hK => hk ρ ro K ?_⟩
  rw [← ren_put]
  exact hK ρ (Agree.refl _ _)

theorem new_ok {id : Nat} {ob : AObj} {h : HV} (hs : s.sc n = true) (hid : id = n ∨ ∃ v k e cs, hget s.heap id = some (v, .arr k e cs)) (hh : h.sc (n + 1) = true) (he : new s n o.dst id ob h = some (s', n'))
    (hk : ∀ (ρ : Nat → Nat) (ro : Option Nat) (K : AS → Prop), (∀ ver, K ((⟨(s.ren ρ).slots, hset (s.ren ρ).heap id ver (ob.ren ρ)⟩ : AS).put o.dst (h.ren (upd ρ n ver)))) → AOp P ro N o K (s.ren ρ)) : OpOk P N o s n s' n' := by
  unfold new at he
  rw [putR_eq, hsetR_eq] at he
  obtain ⟨h1, h2⟩ := guardO_some he
  cases h2
  have hsh := sc_heap_of hs
  have hidn : id < n + 1 := by
    rcases hid with rfl | ⟨v, k, e, cs, hg⟩
    · omega
    · have := sch_lt hsh hg; omega
  refine ⟨sc_put (sc_heap (AS.sc_mono (Nat.le_succ n) s hs) hidn (by omega) (AObj.sc_mono (Nat.le_succ n) ob h1)) hh, ?_, fun ρ ro K hK => hk ρ ro K fun ver => ?_⟩
  · rw [put_heap']
    refine ⟨by omega, LoopKeep.set ?_, Back.set ?_⟩
    · rcases hid with rfl | ⟨v, k, e, cs, hg⟩
      · rw [sch_fresh hsh]; intros; simp
      · rw [hg]; intros; simp
    · rcases hid with rfl | ⟨v, k, e, cs, hg⟩
      · exact .inl (Nat.le_refl _)
      · exact .inr ⟨_, hg⟩
  · have := hK (upd ρ n ver) (Agree.upd n ver ρ)
    rw [ren_put] at this
    have e : (⟨s.slots, hset s.heap id n ob⟩ : AS).ren (upd ρ n ver) = ⟨(s.ren ρ).slots, hset (s.ren ρ).heap id ver (ob.ren ρ)⟩ := by
      simp only [AS.ren, renH_set, upd_at]
      rw [← renS_agree (Agree.upd n ver ρ) _ (sc_slots_of hs), ← renH_agree (Agree.upd n ver ρ) _ hsh, ← AObj.ren_agree (Agree.upd n ver ρ) _ h1]
    rw [e] at this
    exact this
end

/-! the parts of literals -/
theorem aparts_ren (ρ : Nat → Nat) (s : AS) : ∀ ps : List (Nat × Operand), aparts (s.ren ρ) ps = (aparts s ps).map (renS ρ)
  | [] => rfl
  | p :: ps => by
    have ih := aparts_ren ρ s ps
    unfold aparts at ih ⊢
    simp only [List.mapM_cons, Option.pure_def, Option.bind_eq_bind]
    rw [ih, ev_ren]
    cases s.ev p.2 with
    | none => rfl
    | some h =>
      simp only [Option.map_some, Option.bind_some]
      cases List.mapM (fun p => Option.map (fun h => (p.fst, h)) (s.ev p.snd)) ps with
      | none => rfl
      | some qs => rfl

theorem afill_ren (ρ : Nat → Nat) (place : Nat → Option (Nat × Nat)) : ∀ (qs : List (Nat × HV)) (cells : List HV), afill place (renS ρ qs) (renL ρ cells) = (afill place qs cells).map (renL ρ)
  | [], cells => rfl
  | (i, h) :: qs, cells => by
    simp only [renS, afill, cells_ren]
    cases place i with
    | none => rfl
    | some p =>
      obtain ⟨off, size⟩ := p
      cases h.cells? with
      | none => rfl
      | some cs =>
        simp only [Option.map_some, renL_len]
        split
        · rw [← renL_splice, afill_ren ρ place qs]
        · rfl

theorem consts_ren (ρ : Nat → Nat) : ∀ (vs : List Value) (hs : List HV), vs.mapM constHV = some hs → renL ρ hs = hs
  | [], hs, h => by simp at h; subst h; rfl
  | v :: vs, hs, h => by
    simp only [List.mapM_cons, Option.pure_def, Option.bind_eq_bind, Option.bind_eq_some_iff] at h
    obtain ⟨c, hc, ds, hd, he⟩ := h
    cases he
    have h1 := constHV_ren ρ v
    rw [hc] at h1
    simp only [Option.map_some, Option.some.injEq] at h1
    simp only [renL, h1, consts_ren ρ vs ds hd]

theorem zcells_ren (ρ : Nat → Nat) {z : Value} {zs : List HV} (h : zcells z = some zs) : renL ρ zs = zs := by
  have one : ∀ {v : Value}, (match constHV v with
      | some h => if h.one then some [h] else none
      | none => none) = some zs → renL ρ zs = zs := fun {v} h => by
    have h1 := constHV_ren ρ v
    split at h
    · rename_i c hc
      rw [hc] at h1
      simp only [Option.map_some, Option.some.injEq] at h1
      split at h
      · cases h; simp only [renL, h1]
      · cases h
    · cases h
  unfold zcells at h
  split at h
  · split at h
    · rename_i hs hm
      split at h
      · cases h; exact consts_ren ρ _ _ hm
      · cases h
    · cases h
  · cases h
  · exact one h

theorem zrep_ren (ρ : Nat → Nat) {zs : List HV} (h : renL ρ zs = zs) (n : Nat) : renL ρ (zrep zs n) = zrep zs n := by
  induction n with
  | zero => rfl
  | succ n ih =>
    simp only [zrep, List.replicate_succ, List.flatten_cons, renL_append, h] at ih ⊢
    rw [ih]

noncomputable def sslice (T : TypeId → Option TyI) (s : AS) (t : TypeId) (n : Nat) (ps : List (Nat × Operand)) : Option (Nat × TypeId × List HV) :=
  match T t with
  | some ⟨.slice e, _, _, _⟩ => match T e with
    | some U => match zcells U.zero, apartsR s ps with
      | some zs, some qs => guardO (Nat.beq zs.length U.size && Nat.ble (n * U.size) 16777216) (match afill (fun i => some (i * U.size, U.size)) qs (zrep zs n) with
        | some cs => some (U.size, e, cs)
        | none => none)
      | _, _ => none
    | none => none
  | _ => none

def sPlaces (T : TypeId → Option TyI) : List Field → Option (List (Nat × Nat))
  | [] => some []
  | f :: fs => match T f.type, sPlaces T fs with
    | some U, some l => some ((f.offset, U.size) :: l)
    | _, _ => none

noncomputable def sbuild (T : TypeId → Option TyI) (s : AS) (t : TypeId) (ps : List (Nat × Operand)) : Option HV :=
  match T t with
  | some ⟨.struct fs, _, _, z⟩ => match sPlaces T fs.toList, zcells z, apartsR s ps with
    | some pl, some zs, some qs => match afill (fun i => pl[i]?) qs zs with
      | some cs => some (.agg cs)
      | none => none
    | _, _, _ => none
  | _ => none

noncomputable def ssrc (T : TypeId → Option TyI) (s : AS) (xt : TypeId) (k : Nat) (x : HV) : Option (Nat × List HV) :=
  match T xt, x with
  | some ⟨.slice _, _, _, _⟩, .sl k' m cs => guardO (Nat.beq k' k) (some (m, cs))
  | some ⟨.slice _, _, _, _⟩, .ar id ver k' off m => match hgetR s.heap id with
    | some (ver', .arr _ _ cs) => guardO (Nat.beq ver ver' && (Nat.beq k' k && Nat.ble (off + m * k) cs.length)) (some (m, (cs.drop off).take (m * k)))
    | _ => none
  | some ⟨.slice _, _, _, _⟩, .v (.slice none 0 0) => some (0, [])
  | some ⟨.string, _, _, _⟩, .str l => guardO (Nat.beq k 1) (some (l.length, l.map fun b => .int .u8 b.toNat))
  | _, _ => none

noncomputable def sbase (s : AS) (k : Nat) (e : TypeId) (x : HV) : Option (Nat × List HV) :=
  match x with
  | .v (.slice none 0 0) => some (0, [])
  | .ar id ver k' off n => match hgetR s.heap id with
    | some (ver', .arr _ e' cs) => guardO (Nat.beq ver ver' && (Nat.beq k' k && (Nat.beq e' e && (Nat.beq off 0 && Nat.ble (n * k) cs.length)))) (some (n, cs.take (n * k)))
    | _ => none
  | _ => none

section
variable {P : Program} {T : TypeId → Option TyI} {s : AS} {ρ : Nat → Nat}

theorem sslice_sound (hT : TabOk P T) {t : TypeId} {n k : Nat} {e : TypeId} {ps : List (Nat × Operand)} {cs : List HV} {R : Nat → TypeId → List HV → Prop} (h : sslice T s t n ps = some (k, e, cs)) (hr : R k e (renL ρ cs)) : aslice P (s.ren ρ) t n ps R := by
  unfold sslice at h
  simp only [evR_eq, hgetR_eq, hsetR_eq, sgetR_eq, putR_eq, aslR_eq, apartsR_eq] at h
  split at h
  · rename_i e' _ _ _ ht
    split at h
    · rename_i U hU
      split at h
      · rename_i zs qs hz hq
        obtain ⟨hv, h⟩ := guardO_some h
        simp only [Bool.and_eq_true] at hv
        split at h
        · rename_i cs' hc
          cases h
          have hf := afill_ren ρ (fun i => some (i * U.size, U.size)) qs (zrep zs n)
          rw [hc, zrep_ren ρ (zcells_ren ρ hz)] at hf
          simp only [aslice, hT _ _ ht, hT _ _ hU, hz, aparts_ren, hq, Option.map_some, hf]
          exact ⟨Nat.eq_of_beq_eq_true hv.1, Nat.le_of_ble_eq_true hv.2, hr⟩
        · cases h
      · cases h
    · cases h
  · cases h

theorem sPlaces_sound (hT : TabOk P T) : ∀ {fs : List Field} {l : List (Nat × Nat)}, sPlaces T fs = some l → placesOf P fs = some l
  | [], l, h => h
  | f :: fs, l, h => by
    simp only [sPlaces] at h
    split at h
    · rename_i U l' hU hl
      cases h
      simp [placesOf, hT _ _ hU, sPlaces_sound hT hl]
    · cases h

theorem sbuild_sound (hT : TabOk P T) {t : TypeId} {ps : List (Nat × Operand)} {r : HV} {R : HV → Prop} (h : sbuild T s t ps = some r) (hr : R (r.ren ρ)) : abuild P (s.ren ρ) t ps R := by
  unfold sbuild at h
  simp only [evR_eq, hgetR_eq, hsetR_eq, sgetR_eq, putR_eq, aslR_eq, apartsR_eq] at h
  split at h
  · rename_i fs _ _ z ht
    split at h
    · rename_i pl zs qs hpl hz hq
      split at h
      · rename_i cs hc
        cases h
        have hf := afill_ren ρ (fun i => pl[i]?) qs zs
        rw [hc, zcells_ren ρ hz] at hf
        simp only [abuild, hT _ _ ht, sPlaces_sound hT hpl, hz, aparts_ren, hq, Option.map_some, hf]
        exact hr
      · cases h
    · cases h
  · cases h

theorem bytes_ren (ρ : Nat → Nat) (l : List UInt8) : renL ρ (l.map fun b => HV.int .u8 b.toNat) = l.map fun b => HV.int .u8 b.toNat := by
  induction l with
  | nil => rfl
  | cons b l ih => simp only [List.map_cons, renL, HV.ren, ih]

theorem ssrc_sound (hT : TabOk P T) {xt : TypeId} {k m : Nat} {x : HV} {cs : List HV} (h : ssrc T s xt k x = some (m, cs)) : asrc P (s.ren ρ) xt k (x.ren ρ) fun m' cs' => m' = m ∧ cs' = renL ρ cs := by
  unfold ssrc at h
  simp only [evR_eq, hgetR_eq, hsetR_eq, sgetR_eq, putR_eq, aslR_eq, apartsR_eq] at h
  split at h
  · rename_i e _ _ _ k' m' cs' ht
    obtain ⟨hv, h⟩ := guardO_some h
    cases h
    simp only [asrc, hT _ _ ht, HV.ren]
    exact ⟨Nat.eq_of_beq_eq_true hv, trivial, trivial⟩
  · rename_i e _ _ _ id ver k' off m' ht
    split at h
    · rename_i ver' k2 e2 cs' hg
      obtain ⟨hv, h⟩ := guardO_some h
      cases h
      simp only [Bool.and_eq_true] at hv
      have h1 := Nat.eq_of_beq_eq_true hv.1
      subst h1
      simp only [asrc, hT _ _ ht, HV.ren, hget_s ρ hg, AObj.ren]
      refine ⟨trivial, Nat.eq_of_beq_eq_true hv.2.1, by rw [renL_len]; exact Nat.le_of_ble_eq_true hv.2.2, trivial, ?_⟩
      rw [renL_take, renL_drop]
    · cases h
  · rename_i e _ _ _ ht
    cases h
    simp only [asrc, hT _ _ ht, HV.ren]
    exact ⟨trivial, rfl⟩
  · rename_i _ _ _ l ht
    obtain ⟨hv, h⟩ := guardO_some h
    cases h
    simp only [asrc, hT _ _ ht, HV.ren]
    exact ⟨Nat.eq_of_beq_eq_true hv, trivial, (bytes_ren ρ l).symm⟩
  · cases h

theorem sbase_sound {e : TypeId} {k m : Nat} {x : HV} {cs : List HV} (h : sbase s k e x = some (m, cs)) : abase (s.ren ρ) k e (x.ren ρ) fun m' cs' => m' = m ∧ cs' = renL ρ cs := by
  unfold sbase at h
  simp only [evR_eq, hgetR_eq, hsetR_eq, sgetR_eq, putR_eq, aslR_eq, apartsR_eq] at h
  split at h
  · cases h
    simp only [abase, HV.ren]
    exact ⟨trivial, rfl⟩
  · rename_i id ver k' off m'
    split at h
    · rename_i ver' k2 e2 cs' hg
      obtain ⟨hv, h⟩ := guardO_some h
      cases h
      simp only [Bool.and_eq_true] at hv
      have h1 := Nat.eq_of_beq_eq_true hv.1
      subst h1
      simp only [abase, HV.ren, hget_s ρ hg, AObj.ren]
      refine ⟨trivial, Nat.eq_of_beq_eq_true hv.2.1, Nat.eq_of_beq_eq_true hv.2.2.1, Nat.eq_of_beq_eq_true hv.2.2.2.1, by rw [renL_len]; exact Nat.le_of_ble_eq_true hv.2.2.2.2, trivial, ?_⟩
      rw [renL_take]
    · cases h
  · cases h
end
end Go.AW
