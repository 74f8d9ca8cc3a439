import Derived.Test.YtibfjjmglgabdaaDoorCp2
import Derived.Laws.Externs
import Derived.Lib.Builder
import Derived.Lib.Bytealg
import Derived.Lib.UnsafeStr
import Derived.Shelf.Bits.Mul64
import Derived.Shelf.RegionOpenPlain
import Derived.Shelf.Slices.CompactI
import Derived.Shelf.SlicesE.Clone
import Derived.Shelf.SortM.Plain
import Derived.Shelf.SortM.SortNone
import Derived.Shelf.Strconv.Itoa3
import Derived.Test.YtibfjjmglgabdaaDoorChecked
import Derived.Test.YtibfjjmglgabdaaDoorProg
import Derived.WalkKit
namespace Go.AW
open Go Go.Proofs
theorem ty0 : ty Tryd.prog 0 = some { desc := TypeDesc.tuple #[], size := 1, bytes := 0, zero := Value.tuple #[] } := by kernel_rfl
theorem ty1 : ty Tryd.prog 1 = some { desc := TypeDesc.func #[] #[] false, size := 1, bytes := 8, zero := Value.nilFunc } := by kernel_rfl
theorem ty2 : ty Tryd.prog 2 = some { desc := TypeDesc.int IntKind.i64, size := 1, bytes := 8, zero := Value.int IntKind.i64 (0) } := by kernel_rfl
theorem ty3 : ty Tryd.prog 3 = some { desc := TypeDesc.int IntKind.i64, size := 1, bytes := 8, zero := Value.int IntKind.i64 (0) } := by kernel_rfl
theorem ty4 : ty Tryd.prog 4 = some { desc := TypeDesc.bool, size := 1, bytes := 1, zero := Value.bool false } := by kernel_rfl
theorem ty5 : ty Tryd.prog 5 = some { desc := TypeDesc.int IntKind.u8, size := 1, bytes := 1, zero := Value.int IntKind.u8 (0) } := by kernel_rfl
theorem ty6 : ty Tryd.prog 6 = some { desc := TypeDesc.int IntKind.u8, size := 1, bytes := 1, zero := Value.int IntKind.u8 (0) } := by kernel_rfl
theorem ty9 : ty Tryd.prog 9 = some { desc := TypeDesc.string, size := 1, bytes := 16, zero := Value.string { data := #[] } } := by kernel_rfl
theorem ty10 : ty Tryd.prog 10 = some { desc := TypeDesc.string, size := 1, bytes := 16, zero := Value.string { data := #[] } } := by kernel_rfl
theorem ty11 : ty Tryd.prog 11 = some { desc := TypeDesc.string, size := 1, bytes := 16, zero := Value.string { data := #[] } } := by kernel_rfl
theorem ty12 : ty Tryd.prog 12 = some { desc := TypeDesc.int IntKind.u64, size := 1, bytes := 8, zero := Value.int IntKind.u64 (0) } := by kernel_rfl
theorem ty13 : ty Tryd.prog 13 = some { desc := TypeDesc.struct { toList := [{ name := "msg", type := 9, offset := 0, embedded := false, tag := "", pkgPath := "runtime", byteOffset := 0 }, { name := "addr", type := 12, offset := 1, embedded := false, tag := "", pkgPath := "runtime", byteOffset := 16 }] }, size := 2, bytes := 24, zero := Value.agg #[Value.string { data := #[] }, Value.int IntKind.u64 (0)] } := by kernel_rfl
theorem ty14 : ty Tryd.prog 14 = some { desc := TypeDesc.struct { toList := [{ name := "msg", type := 9, offset := 0, embedded := false, tag := "", pkgPath := "runtime", byteOffset := 0 }, { name := "addr", type := 12, offset := 1, embedded := false, tag := "", pkgPath := "runtime", byteOffset := 16 }] }, size := 2, bytes := 24, zero := Value.agg #[Value.string { data := #[] }, Value.int IntKind.u64 (0)] } := by kernel_rfl
theorem ty15 : ty Tryd.prog 15 = some { desc := TypeDesc.pointer 153, size := 1, bytes := 8, zero := Value.pointer none } := by kernel_rfl
theorem ty16 : ty Tryd.prog 16 = some { desc := TypeDesc.pointer 156, size := 1, bytes := 8, zero := Value.pointer none } := by kernel_rfl
theorem ty17 : ty Tryd.prog 17 = some { desc := TypeDesc.pointer 164, size := 1, bytes := 8, zero := Value.pointer none } := by kernel_rfl
theorem ty18 : ty Tryd.prog 18 = some { desc := TypeDesc.struct { toList := [{ name := "typ", type := 17, offset := 0, embedded := false, tag := "", pkgPath := "internal/runtime/maps", byteOffset := 0 }] }, size := 1, bytes := 8, zero := Value.agg #[Value.pointer none] } := by kernel_rfl
theorem ty19 : ty Tryd.prog 19 = some { desc := TypeDesc.struct { toList := [{ name := "typ", type := 17, offset := 0, embedded := false, tag := "", pkgPath := "internal/runtime/maps", byteOffset := 0 }] }, size := 1, bytes := 8, zero := Value.agg #[Value.pointer none] } := by kernel_rfl
theorem ty20 : ty Tryd.prog 20 = some { desc := TypeDesc.interface #[], size := 1, bytes := 16, zero := Value.nilIface } := by kernel_rfl
theorem ty21 : ty Tryd.prog 21 = some { desc := TypeDesc.int IntKind.i32, size := 1, bytes := 4, zero := Value.int IntKind.i32 (0) } := by kernel_rfl
theorem ty22 : ty Tryd.prog 22 = some { desc := TypeDesc.slice 49, size := 1, bytes := 24, zero := Value.slice none 0 0 } := by kernel_rfl
theorem ty23 : ty Tryd.prog 23 = some { desc := TypeDesc.struct { toList := [{ name := "Labels", type := 3, offset := 0, embedded := false, tag := "", pkgPath := "", byteOffset := 0 }, { name := "States", type := 3, offset := 1, embedded := false, tag := "", pkgPath := "", byteOffset := 8 }, { name := "Edges", type := 22, offset := 2, embedded := false, tag := "", pkgPath := "", byteOffset := 16 }] }, size := 3, bytes := 40, zero := Value.agg #[Value.int IntKind.i64 (0), Value.int IntKind.i64 (0), Value.slice none 0 0] } := by kernel_rfl
theorem ty24 : ty Tryd.prog 24 = some { desc := TypeDesc.struct { toList := [{ name := "Labels", type := 3, offset := 0, embedded := false, tag := "", pkgPath := "", byteOffset := 0 }, { name := "States", type := 3, offset := 1, embedded := false, tag := "", pkgPath := "", byteOffset := 8 }, { name := "Edges", type := 22, offset := 2, embedded := false, tag := "", pkgPath := "", byteOffset := 16 }] }, size := 3, bytes := 40, zero := Value.agg #[Value.int IntKind.i64 (0), Value.int IntKind.i64 (0), Value.slice none 0 0] } := by kernel_rfl
theorem ty25 : ty Tryd.prog 25 = some { desc := TypeDesc.slice 5, size := 1, bytes := 24, zero := Value.slice none 0 0 } := by kernel_rfl
theorem ty26 : ty Tryd.prog 26 = some { desc := TypeDesc.func #[24] #[4] false, size := 1, bytes := 8, zero := Value.nilFunc } := by kernel_rfl
theorem ty27 : ty Tryd.prog 27 = some { desc := TypeDesc.int IntKind.i64, size := 1, bytes := 8, zero := Value.int IntKind.i64 (0) } := by kernel_rfl
theorem ty28 : ty Tryd.prog 28 = some { desc := TypeDesc.func #[24] #[27] false, size := 1, bytes := 8, zero := Value.nilFunc } := by kernel_rfl
theorem ty29 : ty Tryd.prog 29 = some { desc := TypeDesc.func #[] #[4] false, size := 1, bytes := 8, zero := Value.nilFunc } := by kernel_rfl
theorem ty30 : ty Tryd.prog 30 = some { desc := TypeDesc.slice 3, size := 1, bytes := 24, zero := Value.slice none 0 0 } := by kernel_rfl
theorem ty31 : ty Tryd.prog 31 = some { desc := TypeDesc.tuple #[30, 3, 4, 27], size := 1, bytes := 0, zero := Value.tuple { toList := [Value.slice none 0 0, Value.int IntKind.i64 (0), Value.bool false, Value.int IntKind.i64 (0)] } } := by kernel_rfl
theorem ty32 : ty Tryd.prog 32 = some { desc := TypeDesc.func #[24] #[30, 3, 4, 27] false, size := 1, bytes := 8, zero := Value.nilFunc } := by kernel_rfl
theorem ty33 : ty Tryd.prog 33 = some { desc := TypeDesc.tuple #[30, 27], size := 1, bytes := 0, zero := Value.tuple #[Value.slice none 0 0, Value.int IntKind.i64 (0)] } := by kernel_rfl
theorem ty34 : ty Tryd.prog 34 = some { desc := TypeDesc.func #[24, 30, 3] #[30, 27] false, size := 1, bytes := 8, zero := Value.nilFunc } := by kernel_rfl
theorem ty35 : ty Tryd.prog 35 = some { desc := TypeDesc.func #[30] #[30] false, size := 1, bytes := 8, zero := Value.nilFunc } := by kernel_rfl
theorem ty36 : ty Tryd.prog 36 = some { desc := TypeDesc.func #[30, 30] #[4] false, size := 1, bytes := 8, zero := Value.nilFunc } := by kernel_rfl
theorem ty37 : ty Tryd.prog 37 = some { desc := TypeDesc.func #[30, 30] #[3] false, size := 1, bytes := 8, zero := Value.nilFunc } := by kernel_rfl
theorem ty38 : ty Tryd.prog 38 = some { desc := TypeDesc.func #[24, 25] #[4] false, size := 1, bytes := 8, zero := Value.nilFunc } := by kernel_rfl
theorem ty39 : ty Tryd.prog 39 = some { desc := TypeDesc.slice 30, size := 1, bytes := 24, zero := Value.slice none 0 0 } := by kernel_rfl
theorem ty40 : ty Tryd.prog 40 = some { desc := TypeDesc.tuple #[24, 39, 27], size := 1, bytes := 0, zero := Value.tuple { toList := [Value.agg { toList := [Value.int IntKind.i64 (0), Value.int IntKind.i64 (0), Value.slice none 0 0] }, Value.slice none 0 0, Value.int IntKind.i64 (0)] } } := by kernel_rfl
theorem ty41 : ty Tryd.prog 41 = some { desc := TypeDesc.func #[24] #[24, 39, 27] false, size := 1, bytes := 8, zero := Value.nilFunc } := by kernel_rfl
theorem ty42 : ty Tryd.prog 42 = some { desc := TypeDesc.func #[24, 30] #[24, 39, 27] false, size := 1, bytes := 8, zero := Value.nilFunc } := by kernel_rfl
theorem ty43 : ty Tryd.prog 43 = some { desc := TypeDesc.func #[24, 24] #[4] false, size := 1, bytes := 8, zero := Value.nilFunc } := by kernel_rfl
theorem ty44 : ty Tryd.prog 44 = some { desc := TypeDesc.func #[39, 39] #[4] false, size := 1, bytes := 8, zero := Value.nilFunc } := by kernel_rfl
theorem ty45 : ty Tryd.prog 45 = some { desc := TypeDesc.func #[24, 30] #[4] false, size := 1, bytes := 8, zero := Value.nilFunc } := by kernel_rfl
theorem ty46 : ty Tryd.prog 46 = some { desc := TypeDesc.tuple #[4, 27], size := 1, bytes := 0, zero := Value.tuple #[Value.bool false, Value.int IntKind.i64 (0)] } := by kernel_rfl
theorem ty47 : ty Tryd.prog 47 = some { desc := TypeDesc.func #[24] #[4, 27] false, size := 1, bytes := 8, zero := Value.nilFunc } := by kernel_rfl
theorem ty48 : ty Tryd.prog 48 = some { desc := TypeDesc.struct { toList := [{ name := "From", type := 3, offset := 0, embedded := false, tag := "", pkgPath := "", byteOffset := 0 }, { name := "Label", type := 3, offset := 1, embedded := false, tag := "", pkgPath := "", byteOffset := 8 }, { name := "To", type := 3, offset := 2, embedded := false, tag := "", pkgPath := "", byteOffset := 16 }] }, size := 3, bytes := 24, zero := Value.agg { toList := [Value.int IntKind.i64 (0), Value.int IntKind.i64 (0), Value.int IntKind.i64 (0)] } } := by kernel_rfl
theorem ty49 : ty Tryd.prog 49 = some { desc := TypeDesc.struct { toList := [{ name := "From", type := 3, offset := 0, embedded := false, tag := "", pkgPath := "", byteOffset := 0 }, { name := "Label", type := 3, offset := 1, embedded := false, tag := "", pkgPath := "", byteOffset := 8 }, { name := "To", type := 3, offset := 2, embedded := false, tag := "", pkgPath := "", byteOffset := 16 }] }, size := 3, bytes := 24, zero := Value.agg { toList := [Value.int IntKind.i64 (0), Value.int IntKind.i64 (0), Value.int IntKind.i64 (0)] } } := by kernel_rfl
theorem ty50 : ty Tryd.prog 50 = some { desc := TypeDesc.func #[39, 51] #[4] false, size := 1, bytes := 8, zero := Value.nilFunc } := by kernel_rfl
theorem ty51 : ty Tryd.prog 51 = some { desc := TypeDesc.func #[30] #[4] false, size := 1, bytes := 8, zero := Value.nilFunc } := by kernel_rfl
theorem ty52 : ty Tryd.prog 52 = some { desc := TypeDesc.func #[24, 5] #[4] false, size := 1, bytes := 8, zero := Value.nilFunc } := by kernel_rfl
theorem ty53 : ty Tryd.prog 53 = some { desc := TypeDesc.struct { toList := [{ name := "Letters", type := 3, offset := 0, embedded := false, tag := "", pkgPath := "", byteOffset := 0 }, { name := "Next", type := 39, offset := 1, embedded := false, tag := "", pkgPath := "", byteOffset := 8 }] }, size := 2, bytes := 32, zero := Value.agg #[Value.int IntKind.i64 (0), Value.slice none 0 0] } := by kernel_rfl
theorem ty54 : ty Tryd.prog 54 = some { desc := TypeDesc.struct { toList := [{ name := "Letters", type := 3, offset := 0, embedded := false, tag := "", pkgPath := "", byteOffset := 0 }, { name := "Next", type := 39, offset := 1, embedded := false, tag := "", pkgPath := "", byteOffset := 8 }] }, size := 2, bytes := 32, zero := Value.agg #[Value.int IntKind.i64 (0), Value.slice none 0 0] } := by kernel_rfl
theorem ty55 : ty Tryd.prog 55 = some { desc := TypeDesc.tuple #[54, 30, 27], size := 1, bytes := 0, zero := Value.tuple { toList := [Value.agg #[Value.int IntKind.i64 (0), Value.slice none 0 0], Value.slice none 0 0, Value.int IntKind.i64 (0)] } } := by kernel_rfl
theorem ty56 : ty Tryd.prog 56 = some { desc := TypeDesc.func #[24] #[54, 30, 27] false, size := 1, bytes := 8, zero := Value.nilFunc } := by kernel_rfl
theorem ty57 : ty Tryd.prog 57 = some { desc := TypeDesc.func #[24, 5, 25] #[4] false, size := 1, bytes := 8, zero := Value.nilFunc } := by kernel_rfl
theorem ty58 : ty Tryd.prog 58 = some { desc := TypeDesc.func #[49, 49] #[3] false, size := 1, bytes := 8, zero := Value.nilFunc } := by kernel_rfl
theorem ty59 : ty Tryd.prog 59 = some { desc := TypeDesc.func #[60] #[58] false, size := 1, bytes := 8, zero := Value.nilFunc } := by kernel_rfl
theorem ty60 : ty Tryd.prog 60 = some { desc := TypeDesc.func #[49] #[30] false, size := 1, bytes := 8, zero := Value.nilFunc } := by kernel_rfl
theorem ty61 : ty Tryd.prog 61 = some { desc := TypeDesc.func #[] #[24] false, size := 1, bytes := 8, zero := Value.nilFunc } := by kernel_rfl
theorem ty62 : ty Tryd.prog 62 = some { desc := TypeDesc.struct { toList := [{ name := "Neg", type := 4, offset := 0, embedded := false, tag := "", pkgPath := "", byteOffset := 0 }, { name := "Mag", type := 9, offset := 1, embedded := false, tag := "", pkgPath := "", byteOffset := 8 }] }, size := 2, bytes := 24, zero := Value.agg #[Value.bool false, Value.string { data := #[] }] } := by kernel_rfl
theorem ty63 : ty Tryd.prog 63 = some { desc := TypeDesc.struct { toList := [{ name := "Neg", type := 4, offset := 0, embedded := false, tag := "", pkgPath := "", byteOffset := 0 }, { name := "Mag", type := 9, offset := 1, embedded := false, tag := "", pkgPath := "", byteOffset := 8 }] }, size := 2, bytes := 24, zero := Value.agg #[Value.bool false, Value.string { data := #[] }] } := by kernel_rfl
theorem ty64 : ty Tryd.prog 64 = some { desc := TypeDesc.tuple #[63, 27], size := 1, bytes := 0, zero := Value.tuple { toList := [Value.agg #[Value.bool false, Value.string { data := #[] }], Value.int IntKind.i64 (0)] } } := by kernel_rfl
theorem ty65 : ty Tryd.prog 65 = some { desc := TypeDesc.func #[24, 3] #[63, 27] false, size := 1, bytes := 8, zero := Value.nilFunc } := by kernel_rfl
theorem ty66 : ty Tryd.prog 66 = some { desc := TypeDesc.func #[3] #[63] false, size := 1, bytes := 8, zero := Value.nilFunc } := by kernel_rfl
theorem ty67 : ty Tryd.prog 67 = some { desc := TypeDesc.func #[24, 30] #[27] false, size := 1, bytes := 8, zero := Value.nilFunc } := by kernel_rfl
theorem ty68 : ty Tryd.prog 68 = some { desc := TypeDesc.func #[82] #[] false, size := 1, bytes := 8, zero := Value.nilFunc } := by kernel_rfl
theorem ty69 : ty Tryd.prog 69 = some { desc := TypeDesc.func #[82] #[] false, size := 1, bytes := 8, zero := Value.nilFunc } := by kernel_rfl
theorem ty70 : ty Tryd.prog 70 = some { desc := TypeDesc.func #[24, 3] #[69] false, size := 1, bytes := 8, zero := Value.nilFunc } := by kernel_rfl
theorem ty71 : ty Tryd.prog 71 = some { desc := TypeDesc.func #[30] #[] false, size := 1, bytes := 8, zero := Value.nilFunc } := by kernel_rfl
theorem ty72 : ty Tryd.prog 72 = some { desc := TypeDesc.func #[3, 3] #[3] false, size := 1, bytes := 8, zero := Value.nilFunc } := by kernel_rfl
theorem ty73 : ty Tryd.prog 73 = some { desc := TypeDesc.func #[24] #[30] false, size := 1, bytes := 8, zero := Value.nilFunc } := by kernel_rfl
theorem ty74 : ty Tryd.prog 74 = some { desc := TypeDesc.tuple #[24, 39, 4], size := 1, bytes := 0, zero := Value.tuple { toList := [Value.agg { toList := [Value.int IntKind.i64 (0), Value.int IntKind.i64 (0), Value.slice none 0 0] }, Value.slice none 0 0, Value.bool false] } } := by kernel_rfl
theorem ty75 : ty Tryd.prog 75 = some { desc := TypeDesc.func #[24, 30] #[24, 39, 4] false, size := 1, bytes := 8, zero := Value.nilFunc } := by kernel_rfl
theorem ty76 : ty Tryd.prog 76 = some { desc := TypeDesc.func #[22, 22] #[4] false, size := 1, bytes := 8, zero := Value.nilFunc } := by kernel_rfl
theorem ty77 : ty Tryd.prog 77 = some { desc := TypeDesc.func #[39, 51] #[3] false, size := 1, bytes := 8, zero := Value.nilFunc } := by kernel_rfl
theorem ty78 : ty Tryd.prog 78 = some { desc := TypeDesc.func #[30, 3] #[30] false, size := 1, bytes := 8, zero := Value.nilFunc } := by kernel_rfl
theorem ty79 : ty Tryd.prog 79 = some { desc := TypeDesc.slice 63, size := 1, bytes := 24, zero := Value.slice none 0 0 } := by kernel_rfl
theorem ty80 : ty Tryd.prog 80 = some { desc := TypeDesc.func #[63, 63] #[63] false, size := 1, bytes := 8, zero := Value.nilFunc } := by kernel_rfl
theorem ty81 : ty Tryd.prog 81 = some { desc := TypeDesc.func #[3] #[9] false, size := 1, bytes := 8, zero := Value.nilFunc } := by kernel_rfl
theorem ty82 : ty Tryd.prog 82 = some { desc := TypeDesc.func #[3, 49] #[4] false, size := 1, bytes := 8, zero := Value.nilFunc } := by kernel_rfl
theorem ty83 : ty Tryd.prog 83 = some { desc := TypeDesc.func #[30, 3, 3, 3] #[] false, size := 1, bytes := 8, zero := Value.nilFunc } := by kernel_rfl
theorem ty84 : ty Tryd.prog 84 = some { desc := TypeDesc.func #[85] #[3] false, size := 1, bytes := 8, zero := Value.nilFunc } := by kernel_rfl
theorem ty85 : ty Tryd.prog 85 = some { desc := TypeDesc.int IntKind.u64, size := 1, bytes := 8, zero := Value.int IntKind.u64 (0) } := by kernel_rfl
theorem ty86 : ty Tryd.prog 86 = some { desc := TypeDesc.func #[3] #[4] false, size := 1, bytes := 8, zero := Value.nilFunc } := by kernel_rfl
theorem ty87 : ty Tryd.prog 87 = some { desc := TypeDesc.func #[30] #[9] false, size := 1, bytes := 8, zero := Value.nilFunc } := by kernel_rfl
theorem ty88 : ty Tryd.prog 88 = some { desc := TypeDesc.map 9 3, size := 1, bytes := 8, zero := Value.map none } := by kernel_rfl
theorem ty89 : ty Tryd.prog 89 = some { desc := TypeDesc.func #[24, 30, 91] #[] false, size := 1, bytes := 8, zero := Value.nilFunc } := by kernel_rfl
theorem ty90 : ty Tryd.prog 90 = some { desc := TypeDesc.tuple #[3, 4], size := 1, bytes := 0, zero := Value.tuple #[Value.int IntKind.i64 (0), Value.bool false] } := by kernel_rfl
theorem ty91 : ty Tryd.prog 91 = some { desc := TypeDesc.func #[3, 30] #[] false, size := 1, bytes := 8, zero := Value.nilFunc } := by kernel_rfl
theorem ty92 : ty Tryd.prog 92 = some { desc := TypeDesc.func #[39, 30] #[3] false, size := 1, bytes := 8, zero := Value.nilFunc } := by kernel_rfl
theorem ty93 : ty Tryd.prog 93 = some { desc := TypeDesc.tuple #[85, 85], size := 1, bytes := 0, zero := Value.tuple #[Value.int IntKind.u64 (0), Value.int IntKind.u64 (0)] } := by kernel_rfl
theorem ty94 : ty Tryd.prog 94 = some { desc := TypeDesc.func #[85, 85] #[85, 85] false, size := 1, bytes := 8, zero := Value.nilFunc } := by kernel_rfl
theorem ty95 : ty Tryd.prog 95 = some { desc := TypeDesc.int IntKind.u64, size := 1, bytes := 8, zero := Value.int IntKind.u64 (0) } := by kernel_rfl
theorem ty96 : ty Tryd.prog 96 = some { desc := TypeDesc.func #[4, 99] #[63] false, size := 1, bytes := 8, zero := Value.nilFunc } := by kernel_rfl
theorem ty97 : ty Tryd.prog 97 = some { desc := TypeDesc.int IntKind.u32, size := 1, bytes := 4, zero := Value.int IntKind.u32 (0) } := by kernel_rfl
theorem ty98 : ty Tryd.prog 98 = some { desc := TypeDesc.slice 97, size := 1, bytes := 24, zero := Value.slice none 0 0 } := by kernel_rfl
theorem ty99 : ty Tryd.prog 99 = some { desc := TypeDesc.slice 97, size := 1, bytes := 24, zero := Value.slice none 0 0 } := by kernel_rfl
theorem ty100 : ty Tryd.prog 100 = some { desc := TypeDesc.func #[63] #[99] false, size := 1, bytes := 8, zero := Value.nilFunc } := by kernel_rfl
theorem ty101 : ty Tryd.prog 101 = some { desc := TypeDesc.func #[99, 99] #[99] false, size := 1, bytes := 8, zero := Value.nilFunc } := by kernel_rfl
theorem ty102 : ty Tryd.prog 102 = some { desc := TypeDesc.func #[99, 99] #[3] false, size := 1, bytes := 8, zero := Value.nilFunc } := by kernel_rfl
theorem ty103 : ty Tryd.prog 103 = some { desc := TypeDesc.array 8 5, size := 8, bytes := 8, zero := Value.agg { toList := [Value.int IntKind.u8 (0), Value.int IntKind.u8 (0), Value.int IntKind.u8 (0), Value.int IntKind.u8 (0), Value.int IntKind.u8 (0), Value.int IntKind.u8 (0), Value.int IntKind.u8 (0), Value.int IntKind.u8 (0)] } } := by kernel_rfl
theorem ty104 : ty Tryd.prog 104 = some { desc := TypeDesc.func #[30, 3, 3] #[] false, size := 1, bytes := 8, zero := Value.nilFunc } := by kernel_rfl
theorem ty105 : ty Tryd.prog 105 = some { desc := TypeDesc.int IntKind.i64, size := 1, bytes := 8, zero := Value.int IntKind.i64 (0) } := by kernel_rfl
theorem ty106 : ty Tryd.prog 106 = some { desc := TypeDesc.tuple #[3, 105], size := 1, bytes := 0, zero := Value.tuple #[Value.int IntKind.i64 (0), Value.int IntKind.i64 (0)] } := by kernel_rfl
theorem ty107 : ty Tryd.prog 107 = some { desc := TypeDesc.func #[30, 3, 3] #[3, 105] false, size := 1, bytes := 8, zero := Value.nilFunc } := by kernel_rfl
theorem ty108 : ty Tryd.prog 108 = some { desc := TypeDesc.func #[30, 3, 3] #[4] false, size := 1, bytes := 8, zero := Value.nilFunc } := by kernel_rfl
theorem ty109 : ty Tryd.prog 109 = some { desc := TypeDesc.func #[3, 3] #[4] false, size := 1, bytes := 8, zero := Value.nilFunc } := by kernel_rfl
theorem ty110 : ty Tryd.prog 110 = some { desc := TypeDesc.func #[30, 3, 3, 3] #[3] false, size := 1, bytes := 8, zero := Value.nilFunc } := by kernel_rfl
theorem ty111 : ty Tryd.prog 111 = some { desc := TypeDesc.func #[30, 3, 3, 3] #[3, 4] false, size := 1, bytes := 8, zero := Value.nilFunc } := by kernel_rfl
theorem ty112 : ty Tryd.prog 112 = some { desc := TypeDesc.func #[97] #[3] false, size := 1, bytes := 8, zero := Value.nilFunc } := by kernel_rfl
theorem ty113 : ty Tryd.prog 113 = some { desc := TypeDesc.func #[95] #[3] false, size := 1, bytes := 8, zero := Value.nilFunc } := by kernel_rfl
theorem ty114 : ty Tryd.prog 114 = some { desc := TypeDesc.pointer 116, size := 1, bytes := 8, zero := Value.pointer none } := by kernel_rfl
theorem ty115 : ty Tryd.prog 115 = some { desc := TypeDesc.struct { toList := [{ name := "addr", type := 114, offset := 0, embedded := false, tag := "", pkgPath := "strings", byteOffset := 0 }, { name := "buf", type := 25, offset := 1, embedded := false, tag := "", pkgPath := "strings", byteOffset := 8 }] }, size := 2, bytes := 32, zero := Value.agg #[Value.pointer none, Value.slice none 0 0] } := by kernel_rfl
theorem ty116 : ty Tryd.prog 116 = some { desc := TypeDesc.struct { toList := [{ name := "addr", type := 114, offset := 0, embedded := false, tag := "", pkgPath := "strings", byteOffset := 0 }, { name := "buf", type := 25, offset := 1, embedded := false, tag := "", pkgPath := "strings", byteOffset := 8 }] }, size := 2, bytes := 32, zero := Value.agg #[Value.pointer none, Value.slice none 0 0] } := by kernel_rfl
theorem ty117 : ty Tryd.prog 117 = some { desc := TypeDesc.interface #[("Error", 121)], size := 1, bytes := 16, zero := Value.nilIface } := by kernel_rfl
theorem ty118 : ty Tryd.prog 118 = some { desc := TypeDesc.interface #[("Error", 121)], size := 1, bytes := 16, zero := Value.nilIface } := by kernel_rfl
theorem ty119 : ty Tryd.prog 119 = some { desc := TypeDesc.tuple #[3, 118], size := 1, bytes := 0, zero := Value.tuple #[Value.int IntKind.i64 (0), Value.nilIface] } := by kernel_rfl
theorem ty120 : ty Tryd.prog 120 = some { desc := TypeDesc.func #[9] #[3, 118] false, size := 1, bytes := 8, zero := Value.nilFunc } := by kernel_rfl
theorem ty121 : ty Tryd.prog 121 = some { desc := TypeDesc.func #[] #[9] false, size := 1, bytes := 8, zero := Value.nilFunc } := by kernel_rfl
theorem ty122 : ty Tryd.prog 122 = some { desc := TypeDesc.func #[24, 30, 3] #[30] false, size := 1, bytes := 8, zero := Value.nilFunc } := by kernel_rfl
theorem ty123 : ty Tryd.prog 123 = some { desc := TypeDesc.tuple #[97, 97], size := 1, bytes := 0, zero := Value.tuple #[Value.int IntKind.u32 (0), Value.int IntKind.u32 (0)] } := by kernel_rfl
theorem ty124 : ty Tryd.prog 124 = some { desc := TypeDesc.func #[97, 97] #[97, 97] false, size := 1, bytes := 8, zero := Value.nilFunc } := by kernel_rfl
theorem ty125 : ty Tryd.prog 125 = some { desc := TypeDesc.tuple #[95, 95], size := 1, bytes := 0, zero := Value.tuple #[Value.int IntKind.u64 (0), Value.int IntKind.u64 (0)] } := by kernel_rfl
theorem ty126 : ty Tryd.prog 126 = some { desc := TypeDesc.func #[95, 95] #[95, 95] false, size := 1, bytes := 8, zero := Value.nilFunc } := by kernel_rfl
theorem ty127 : ty Tryd.prog 127 = some { desc := TypeDesc.func #[99] #[99] false, size := 1, bytes := 8, zero := Value.nilFunc } := by kernel_rfl
theorem ty128 : ty Tryd.prog 128 = some { desc := TypeDesc.int IntKind.u64, size := 1, bytes := 8, zero := Value.int IntKind.u64 (0) } := by kernel_rfl
theorem ty129 : ty Tryd.prog 129 = some { desc := TypeDesc.func #[3] #[85] false, size := 1, bytes := 8, zero := Value.nilFunc } := by kernel_rfl
theorem ty130 : ty Tryd.prog 130 = some { desc := TypeDesc.func #[] #[95] false, size := 1, bytes := 8, zero := Value.nilFunc } := by kernel_rfl
theorem ty131 : ty Tryd.prog 131 = some { desc := TypeDesc.func #[30, 3, 132] #[3] false, size := 1, bytes := 8, zero := Value.nilFunc } := by kernel_rfl
theorem ty132 : ty Tryd.prog 132 = some { desc := TypeDesc.pointer 3, size := 1, bytes := 8, zero := Value.pointer none } := by kernel_rfl
theorem ty133 : ty Tryd.prog 133 = some { desc := TypeDesc.func #[30, 3, 3, 3, 132] #[3] false, size := 1, bytes := 8, zero := Value.nilFunc } := by kernel_rfl
theorem ty134 : ty Tryd.prog 134 = some { desc := TypeDesc.pointer 5, size := 1, bytes := 8, zero := Value.pointer none } := by kernel_rfl
theorem ty135 : ty Tryd.prog 135 = some { desc := TypeDesc.func #[30, 3] #[4] false, size := 1, bytes := 8, zero := Value.nilFunc } := by kernel_rfl
theorem ty136 : ty Tryd.prog 136 = some { desc := TypeDesc.pointer 128, size := 1, bytes := 8, zero := Value.pointer none } := by kernel_rfl
theorem ty137 : ty Tryd.prog 137 = some { desc := TypeDesc.tuple #[3, 3], size := 1, bytes := 0, zero := Value.tuple #[Value.int IntKind.i64 (0), Value.int IntKind.i64 (0)] } := by kernel_rfl
theorem ty138 : ty Tryd.prog 138 = some { desc := TypeDesc.func #[30, 3, 3, 132] #[3, 3] false, size := 1, bytes := 8, zero := Value.nilFunc } := by kernel_rfl
theorem ty140 : ty Tryd.prog 140 = some { desc := TypeDesc.func #[139] #[139] false, size := 1, bytes := 8, zero := Value.nilFunc } := by kernel_rfl
theorem ty141 : ty Tryd.prog 141 = some { desc := TypeDesc.func #[2, 3] #[9] false, size := 1, bytes := 8, zero := Value.nilFunc } := by kernel_rfl
theorem ty143 : ty Tryd.prog 143 = some { desc := TypeDesc.func #[25, 95] #[] false, size := 1, bytes := 8, zero := Value.nilFunc } := by kernel_rfl
theorem ty144 : ty Tryd.prog 144 = some { desc := TypeDesc.tuple #[25, 9], size := 1, bytes := 0, zero := Value.tuple #[Value.slice none 0 0, Value.string { data := #[] }] } := by kernel_rfl
theorem ty145 : ty Tryd.prog 145 = some { desc := TypeDesc.func #[25, 95, 3, 4, 4] #[25, 9] false, size := 1, bytes := 8, zero := Value.nilFunc } := by kernel_rfl
theorem ty146 : ty Tryd.prog 146 = some { desc := TypeDesc.func #[3] #[3] false, size := 1, bytes := 8, zero := Value.nilFunc } := by kernel_rfl
theorem ty147 : ty Tryd.prog 147 = some { desc := TypeDesc.func #[4] #[3] false, size := 1, bytes := 8, zero := Value.nilFunc } := by kernel_rfl
theorem ty148 : ty Tryd.prog 148 = some { desc := TypeDesc.array 20 95, size := 20, bytes := 160, zero := Value.agg { toList := [Value.int IntKind.u64 (0), Value.int IntKind.u64 (0), Value.int IntKind.u64 (0), Value.int IntKind.u64 (0), Value.int IntKind.u64 (0), Value.int IntKind.u64 (0), Value.int IntKind.u64 (0), Value.int IntKind.u64 (0), Value.int IntKind.u64 (0), Value.int IntKind.u64 (0), Value.int IntKind.u64 (0), Value.int IntKind.u64 (0), Value.int IntKind.u64 (0), Value.int IntKind.u64 (0), Value.int IntKind.u64 (0), Value.int IntKind.u64 (0), Value.int IntKind.u64 (0), Value.int IntKind.u64 (0), Value.int IntKind.u64 (0), Value.int IntKind.u64 (0)] } } := by kernel_rfl
theorem ty154 : ty Tryd.prog 154 = some { desc := TypeDesc.array 0 16, size := 0, bytes := 0, zero := Value.agg #[] } := by kernel_rfl
theorem ty155 : ty Tryd.prog 155 = some { desc := TypeDesc.struct { toList := [{ name := "_", type := 154, offset := 0, embedded := false, tag := "", pkgPath := "runtime", byteOffset := 0 }] }, size := 0, bytes := 0, zero := Value.agg #[] } := by kernel_rfl
theorem ty156 : ty Tryd.prog 156 = some { desc := TypeDesc.struct { toList := [{ name := "_", type := 154, offset := 0, embedded := false, tag := "", pkgPath := "runtime", byteOffset := 0 }] }, size := 0, bytes := 0, zero := Value.agg #[] } := by kernel_rfl
theorem ty157 : ty Tryd.prog 157 = some { desc := TypeDesc.func #[] #[3] false, size := 1, bytes := 8, zero := Value.nilFunc } := by kernel_rfl
theorem ty158 : ty Tryd.prog 158 = some { desc := TypeDesc.int IntKind.u8, size := 1, bytes := 1, zero := Value.int IntKind.u8 (0) } := by kernel_rfl
theorem ty159 : ty Tryd.prog 159 = some { desc := TypeDesc.int IntKind.u8, size := 1, bytes := 1, zero := Value.int IntKind.u8 (0) } := by kernel_rfl
theorem ty160 : ty Tryd.prog 160 = some { desc := TypeDesc.func #[139, 139] #[4] false, size := 1, bytes := 8, zero := Value.nilFunc } := by kernel_rfl
theorem ty161 : ty Tryd.prog 161 = some { desc := TypeDesc.int IntKind.i32, size := 1, bytes := 4, zero := Value.int IntKind.i32 (0) } := by kernel_rfl
theorem ty162 : ty Tryd.prog 162 = some { desc := TypeDesc.int IntKind.i32, size := 1, bytes := 4, zero := Value.int IntKind.i32 (0) } := by kernel_rfl
attribute [go_sem] ty0 ty1 ty2 ty3 ty4 ty5 ty6 ty9 ty10 ty11 ty12 ty13 ty14 ty15 ty16 ty17 ty18 ty19 ty20 ty21 ty22 ty23 ty24 ty25 ty26 ty27 ty28 ty29 ty30 ty31 ty32 ty33 ty34 ty35 ty36 ty37 ty38 ty39 ty40 ty41 ty42 ty43 ty44 ty45 ty46 ty47 ty48 ty49 ty50 ty51 ty52 ty53 ty54 ty55 ty56 ty57 ty58 ty59 ty60 ty61 ty62 ty63 ty64 ty65 ty66 ty67 ty68 ty69 ty70 ty71 ty72 ty73 ty74 ty75 ty76 ty77 ty78 ty79 ty80 ty81 ty82 ty83 ty84 ty85 ty86 ty87 ty88 ty89 ty90 ty91 ty92 ty93 ty94 ty95 ty96 ty97 ty98 ty99 ty100 ty101 ty102 ty103 ty104 ty105 ty106 ty107 ty108 ty109 ty110 ty111 ty112 ty113 ty114 ty115 ty116 ty117 ty118 ty119 ty120 ty121 ty122 ty123 ty124 ty125 ty126 ty127 ty128 ty129 ty130 ty131 ty132 ty133 ty134 ty135 ty136 ty137 ty138 ty140 ty141 ty143 ty144 ty145 ty146 ty147 ty148 ty154 ty155 ty156 ty157 ty158 ty159 ty160 ty161 ty162
theorem follows : Tryd.prog.follows .mixedOrders = true := by kernel_rfl
end Go.AW

namespace Go.AW
open Go Go.Proofs
theorem fo24_0 : fieldOf Tryd.prog 24 0 = some (0, { desc := TypeDesc.int IntKind.i64, size := 1, bytes := 8, zero := Value.int IntKind.i64 (0) }) := by kernel_rfl
theorem fo24_1 : fieldOf Tryd.prog 24 1 = some (1, { desc := TypeDesc.int IntKind.i64, size := 1, bytes := 8, zero := Value.int IntKind.i64 (0) }) := by kernel_rfl
theorem fo24_2 : fieldOf Tryd.prog 24 2 = some (2, { desc := TypeDesc.slice 49, size := 1, bytes := 24, zero := Value.slice none 0 0 }) := by kernel_rfl
theorem fo49_0 : fieldOf Tryd.prog 49 0 = some (0, { desc := TypeDesc.int IntKind.i64, size := 1, bytes := 8, zero := Value.int IntKind.i64 (0) }) := by kernel_rfl
theorem fo49_1 : fieldOf Tryd.prog 49 1 = some (1, { desc := TypeDesc.int IntKind.i64, size := 1, bytes := 8, zero := Value.int IntKind.i64 (0) }) := by kernel_rfl
theorem fo49_2 : fieldOf Tryd.prog 49 2 = some (2, { desc := TypeDesc.int IntKind.i64, size := 1, bytes := 8, zero := Value.int IntKind.i64 (0) }) := by kernel_rfl
theorem fo54_0 : fieldOf Tryd.prog 54 0 = some (0, { desc := TypeDesc.int IntKind.i64, size := 1, bytes := 8, zero := Value.int IntKind.i64 (0) }) := by kernel_rfl
theorem fo54_1 : fieldOf Tryd.prog 54 1 = some (1, { desc := TypeDesc.slice 30, size := 1, bytes := 24, zero := Value.slice none 0 0 }) := by kernel_rfl
theorem fo63_0 : fieldOf Tryd.prog 63 0 = some (0, { desc := TypeDesc.bool, size := 1, bytes := 1, zero := Value.bool false }) := by kernel_rfl
theorem fo63_1 : fieldOf Tryd.prog 63 1 = some (1, { desc := TypeDesc.string, size := 1, bytes := 16, zero := Value.string { data := #[] } }) := by kernel_rfl
theorem fo116_1 : fieldOf Tryd.prog 116 1 = some (1, { desc := TypeDesc.slice 5, size := 1, bytes := 24, zero := Value.slice none 0 0 }) := by kernel_rfl
theorem es22 : elemSize Tryd.prog 22 = some 3 := by kernel_rfl
theorem es25 : elemSize Tryd.prog 25 = some 1 := by kernel_rfl
theorem es30 : elemSize Tryd.prog 30 = some 1 := by kernel_rfl
theorem es39 : elemSize Tryd.prog 39 = some 1 := by kernel_rfl
theorem es79 : elemSize Tryd.prog 79 = some 2 := by kernel_rfl
theorem es99 : elemSize Tryd.prog 99 = some 1 := by kernel_rfl
theorem hk63 (x0 : Bool) (x1 : List UInt8) : hkey Tryd.prog 5 63 [HV.bool x0, HV.str x1] = some [Lit.bool x0, Lit.string x1] := by kernel_rfl
theorem hc63 : Tryd.prog.eqGuardType Tryd.prog.depth 63 = false ∧ Tryd.prog.keyTypeAt 5 63 = true ∧ structT Tryd.prog 63 = true := ⟨by kernel_rfl, by kernel_rfl, by kernel_rfl⟩
theorem hq63 (x y : Bool × List UInt8) : x = y ↔ [Lit.bool x.1, Lit.string x.2] = [Lit.bool y.1, Lit.string y.2] := by simp [Prod.ext_iff, and_assoc]
end Go.AW

/- Lockstep walks: ranges over functions. -/
namespace Go.AW
open Go

def forL {S α X : Type} (body : S → α → Option (Stp S X)) : List α → S → Option (Ou S X)
  | [], s => some (.go s)
  | x :: l, s => match body s x with
    | some (.next s') => forL body l s'
    | some (.exit y) => some (.ret y)
    | none => none

def Yields (P : Program) (f : FuncId) (fs cs : List HV) (ys : List (List HV)) : Prop :=
  ∀ (id ver : Nat) (H : Heap) (J : Nat → Heap → Prop) (Stop : Heap → Prop) (K : HV → Heap → Prop), (∀ i H H', J i H → (∀ j x, hget H j = some x → hget H' j = some x) → J i H') → J 0 H →
    (∀ i y H, ys[i]? = some y → J i H → YCall P id ver y H fun r H' => ∃ b, r = .bool b ∧ (b = true → J (i + 1) H') ∧ (b = false → Stop H')) →
    (∀ H, J ys.length H → K (.tup []) H) → (∀ H, Stop H → K (.tup []) H) → ACall P f (fs ++ [.yl id ver] ++ cs) H K

theorem YCall.of {P : Program} {id ver fn n : Nat} {snap : List (Nat × HV)} {ps : Array Tmp} {assign body : Code} {hs : List HV} {H : Heap} {K : HV → Heap → Prop} (hg : hget H id = some (ver, .loop .ready none fn n snap ps assign body)) (hl : ps.size = hs.length) (hp : ∀ p ∈ ps.toList, p < n)
    (h : ∀ l, AW P (some l) n assign (fun e s1 => e = .normal ∧ hget s1.heap id = some (ver, .loop .ready none fn n snap ps assign body) ∧
      AW P (some l) n body (rndQ id ver fn n snap ps assign body K) { s1 with heap := hset s1.heap id ver (.loop .busy none fn n snap ps assign body) }) { slots := setPs snap ps.toList hs, heap := H }) : YCall P id ver hs H K :=
  ⟨fn, n, snap, ps, assign, body, hg, hl, hp, h⟩

section
variable {P : Program} {N : Nat} {Q : Exit → AS → Prop} {s : AS}

def rdQ (G J : AS → Prop) (c : Code) : Exit → AS → Prop
  | .normal, s => G s
  | .ret, s => c = .ret ∧ J s
  | .exit i, s => c = .exit i ∧ J s
  | _, _ => False

theorem hget_le {H H' : Heap} (h : ∀ i x, hget H' i = some x → hget H i = some x) {id ver : Nat} {o : AObj} (hn : hget H' id = none) : ∀ i x, hget H' i = some x → hget (hset H id ver o) i = some x := fun i x hx => by
  rw [hget_hset, if_neg (fun e => by rw [e, hn] at hx; cases hx)]
  exact h i x hx

theorem AW.rangeY {S α X R V W : Type} {g : Operand} {ps : Array Tmp} {assign body c : Code} {f : FuncId} {fs cs : List HV} {mb : S → α → Option (Stp S X)} {L : List α} {M : S → Option R} {Mx : X → Option R} {s0 : S} {r : R} {sl : List (Nat × HV)}
    (id : Nat) (ye : α → List HV) (h : lpO (forL mb L s0) M Mx = some r) (up : Up (Q .normal)) (hg : (⟨sl, []⟩ : AS).ev g = some (.fn (.func f) fs cs)) (hy : Yields P f fs cs (L.map ye))
    (St : S → V → Heap) (v0 : V) (Sx : X → W → Heap) (hno : ∀ a v, hget (St a v) id = none) (hnox : ∀ a v, hget (Sx a v) id = none) (hps : (ps.toList.all fun p => Nat.blt p N) = true) (hpl : ∀ x, ps.size = (ye x).length)
    (kdone : ∀ a v, M a = some r → Q .normal ⟨sl, St a v⟩) (kout : ∀ x w, Mx x = some r → AW P none N c Q ⟨sl, Sx x w⟩)
    (round : ∀ (Lo : LoopState → Option Code → AObj) (l ver : Nat) (a : S) (x : α) (v : V) (st : Stp S X), mb a x = some st →
      AW P (some l) N assign (fun e s1 => e = .normal ∧ hget s1.heap id = some (ver, Lo .ready none) ∧
        AW P (some l) N body (rdQ (fun s' => ∃ a' v', some (Stp.next a') = some st ∧ s'.le ⟨[], (id, ver, Lo .busy none) :: St a' v'⟩) (fun s' => ∃ x' w, some (Stp.exit x') = some st ∧ s'.le ⟨[], (id, ver, Lo .busy none) :: Sx x' w⟩) c)
          { s1 with heap := hset s1.heap id ver (Lo .busy none) }) ⟨setPs sl ps.toList (ye x), (id, ver, Lo .ready none) :: St a v⟩) :
    AW P none N (.rangeFunc g ps assign body) Q ⟨sl, St s0 v0⟩ := by
  have hg' : (⟨sl, St s0 v0⟩ : AS).ev g = some (.fn (.func f) fs cs) := by
    cases g <;> exact hg
  refine AW.rangeFunc id hg' fun fn ver => ?_
  obtain ⟨Lo, hLo⟩ : ∃ Lo : LoopState → Option Code → AObj, ∀ st p, Lo st p = .loop st p fn N sl ps assign body := ⟨_, fun _ _ => rfl⟩
  -- what the model comes to from a state on
  let J : Nat → Heap → Prop := fun i H => ∃ a v, lpO (forL mb (L.drop i) a) M Mx = some r ∧ hget H id = some (ver, Lo .ready none) ∧ ∀ j x, hget (St a v) j = some x → hget H j = some x
  let Stop : Heap → Prop := fun H => ∃ x w, Mx x = some r ∧ (hget H id = some (ver, Lo .done (some c))) ∧ ∀ j y, hget (Sx x w) j = some y → hget H j = some y
  refine hy id ver _ J Stop _ (fun i H H' ⟨a, v, h1, h2, h3⟩ hl => ⟨a, v, h1, hl _ _ h2, fun j x hx => hl _ _ (h3 j x hx)⟩) ⟨s0, v0, by rw [List.drop_zero]; exact h, by rw [hget_hset, if_pos rfl, hLo], fun j x hx => ?_⟩ ?_ ?_ ?_
  · exact hget_le (fun _ _ h => h) (hno s0 v0) j x hx
  · rintro i y H hyi ⟨a, v, hm, hlo, hle⟩
    rw [List.getElem?_map] at hyi
    cases hLi : L[i]? with
    | none => rw [hLi] at hyi; cases hyi
    | some x =>
      rw [hLi] at hyi
      cases hyi
      have hi := (List.getElem?_eq_some_iff.1 hLi).1
      have hx : L.drop i = x :: L.drop (i + 1) := by
        rw [List.drop_eq_getElem_cons hi]
        congr 1
        exact (List.getElem?_eq_some_iff.1 hLi).2
      rw [hx] at hm
      simp only [forL] at hm
      have hmb : ∃ st, mb a x = some st := by
        cases hb : mb a x with
        | none => rw [hb] at hm; cases hm
        | some st => exact ⟨st, rfl⟩
      obtain ⟨st, hst⟩ := hmb
      rw [hst] at hm
      rw [hLo] at hlo
      refine YCall.of hlo (hpl x) (fun p hp => by
        have := List.all_eq_true.1 hps p hp
        exact (Nat.blt_eq ▸ this : _)) fun l => ?_
      have hr := round Lo l ver a x v st hst
      refine AW.weaken ?_ (s' := ⟨setPs sl ps.toList (ye x), (id, ver, Lo .ready none) :: St a v⟩) ⟨fun _ _ h => h, fun j z hz => ?_⟩
      · refine hr.mono ?_
        rintro e s1 ⟨he, h1, h2⟩
        rw [hLo] at h1
        refine ⟨he, h1, ?_⟩
        rw [hLo] at h2
        refine h2.mono ?_
        rintro e s' h
        cases e with
        | normal =>
          obtain ⟨a', v', he', hl⟩ := h
          cases he'
          refine ⟨(hl.2 id _ (by simp only [hget, if_true])), true, rfl, fun _ => ⟨a', v', hm, (by rw [hget_hset, if_pos rfl, hLo]), ?_⟩, fun e => (by cases e)⟩
          refine hget_le (fun j z hz => hl.2 j z ?_) (hno a' v')
          simp only [hget]
          rw [if_neg (fun e => by rw [e, hno] at hz; cases hz)]
          exact hz
        | ret =>
          obtain ⟨hc, x', w, he', hl⟩ := h
          cases he'
          refine ⟨(hl.2 id _ (by simp only [hget, if_true])), false, rfl, fun e => (by cases e), fun _ => ⟨x', w, hm, (by rw [hget_hset, if_pos rfl, hLo, hc]), ?_⟩⟩
          refine hget_le (fun j z hz => hl.2 j z ?_) (hnox x' w)
          simp only [hget]
          rw [if_neg (fun e => by rw [e, hnox] at hz; cases hz)]
          exact hz
        | exit i' =>
          obtain ⟨hc, x', w, he', hl⟩ := h
          cases he'
          refine ⟨(hl.2 id _ (by simp only [hget, if_true])), false, rfl, fun e => (by cases e), fun _ => ⟨x', w, hm, (by rw [hget_hset, if_pos rfl, hLo, hc]), ?_⟩⟩
          refine hget_le (fun j z hz => hl.2 j z ?_) (hnox x' w)
          simp only [hget]
          rw [if_neg (fun e => by rw [e, hnox] at hz; cases hz)]
          exact hz
        | goto l => exact h.elim
        | panic ch => exact h.elim
        | outgrown => exact h.elim
      · simp only [hget] at hz
        split at hz
        · rename_i e
          subst e
          cases hz
          rw [hLo]; exact hlo
        · exact hle j z hz
  · rintro H ⟨a, v, hm, hlo, hle⟩
    rw [List.length_map, List.drop_length] at hm
    refine ⟨.ready, none, by rw [← hLo]; exact hlo, by simp, ?_⟩
    refine up _ (to_le (s' := ⟨sl, St a v⟩) ⟨fun _ _ h => h, ?_⟩ (kdone a v hm))
    exact hget_le hle (hno a v)
  · rintro H ⟨x, w, hm, hlo, hle⟩
    refine ⟨.done, some c, by rw [← hLo]; exact hlo, by simp, ?_⟩
    refine AW.weaken (kout x w hm) ⟨fun _ _ h => h, ?_⟩
    exact hget_le hle (hnox x w)
end
end Go.AW
namespace Go.AW
open Go

theorem ACall.freeze {P : Program} {f : FuncId} {args : List HV} {H : Heap} {K : HV → Heap → Prop} (n : Nat) (D H' : Heap)
    (h : ACall P f args H fun r H1 => (∀ j x, hget H' j = some x → hget H1 j = some x) ∧ (∀ j x, hget D j = some x → hget H1 j = some x ∧ hget H' j = none) ∧ K (frz n D r) H') : ACall P f args H K := by
  refine ⟨h.1, fun μ w vs hs hr => (h.2 μ w vs hs hr).mono ?_⟩
  rintro e w' ⟨v, r, H1, μ', rfl, ⟨h1, h2, k⟩, hs', hr', E⟩
  exact ⟨v, frz n D r, H', μ'.cut H', rfl, k, hs'.sub h1, frz_rep hs' h2 n r v hr', E.trans (Evo.cut w' μ' H')⟩

section
variable {P : Program} {ro : Option Nat} {N : Nat} {all : Array Oper} {rest : List Oper} {o : Oper} {K : AS → Prop} {sl : List (Nat × HV)} {H : Heap}
theorem o_yield {d : Nat} {aa : Array Operand} {ts : Array TypeId} {f : Operand} {id ver : Nat} {hs : List HV} (h0 : (o.dst, o.op) = (some d, .call ⟨.value f, aa, ts⟩)) (hf : (⟨sl, H⟩ : AS).ev f = some (.yl id ver)) (ha : aa.toList.mapM (⟨sl, H⟩ : AS).ev = some hs)
    (h : YCall P id ver hs H fun r H' => bops P ro N all rest K ⟨(d, r) :: sl, H'⟩) : aop P 0 [] o (fun s' => bops P ro N all rest K s') ⟨sl, H⟩ := by
  obtain ⟨h1, h2⟩ := Prod.mk.inj h0
  simp only [aop, h2, hf, ha]
  refine h.mono fun r H' hk => ?_
  rw [h1]
  exact bops_le (put_le (s := ⟨sl, H'⟩) d r) hk
theorem fresh_id (H : Heap) (d : Nat) : ∃ f, hget H (f * 1000 + d) = none := by
  have : ∀ H : Heap, ∃ m, ∀ j, m ≤ j → hget H j = none := by
    intro H
    induction H with
    | nil => exact ⟨0, fun _ _ => rfl⟩
    | cons p H ih =>
      obtain ⟨i, v, ob⟩ := p
      obtain ⟨m, hm⟩ := ih
      refine ⟨max m (i + 1), fun j hj => ?_⟩
      simp only [hget]
      rw [if_neg (by omega)]
      exact hm j (by omega)
  obtain ⟨m, hm⟩ := this H
  exact ⟨m, hm _ (by omega)⟩
theorem cons_le {H : Heap} {id ver : Nat} {ob : AObj} (hn : hget H id = none) : ∀ j x, hget H j = some x → hget ((id, ver, ob) :: H) j = some x := fun j x hx => by
  simp only [hget]
  rw [if_neg (fun e => by rw [e, hn] at hx; cases hx)]
  exact hx
theorem o_callK {d : Nat} {aa : Array Operand} {ts : Array TypeId} {f : Operand} {g : FuncId} {fs hs cs args : List HV} {q : HV} (H2 : Heap) (h0 : (o.dst, o.op) = (some d, .call ⟨.value f, aa, ts⟩)) (hf : (⟨sl, H⟩ : AS).ev f = some (.fn (.func g) fs cs)) (ha : aa.toList.mapM (⟨sl, H⟩ : AS).ev = some hs) (hargs : fs ++ hs ++ cs = args)
    (h : ∀ K : HV → Heap → Prop, K q H2 → ACall P g args H K) (k : bops P ro N all rest K ⟨(d, q) :: sl, H2⟩) : aop P 0 [] o (fun s' => bops P ro N all rest K s') ⟨sl, H⟩ := by
  obtain ⟨h1, h2⟩ := Prod.mk.inj h0
  refine op_call h2 hf ha hargs (h _ ?_)
  rw [h1]
  exact bops_le (put_le (s := ⟨sl, H2⟩) d q) k
theorem hset_le (H : Heap) (id ver : Nat) (ob : AObj) (sl : List (Nat × HV)) : (⟨sl, hset H id ver ob⟩ : AS).le ⟨sl, (id, ver, ob) :: H⟩ := ⟨fun _ _ h => h, fun i x hx => by
  simp only [hget] at hx
  simp only [hget_hset]
  exact hx⟩
theorem o_sortI {d : Nat} {aa : Array Operand} {ts : Array TypeId} {f : Operand} {g : FuncId} {id ver : Nat} {e : TypeId} {l : List Int} (hS : SortsI P g) (h0 : (o.dst, o.op) = (some d, .call ⟨.value f, aa, ts⟩)) (hf : (⟨sl, H⟩ : AS).ev f = some (.fn (.func g) [] [])) (ha : aa.toList.mapM (⟨sl, H⟩ : AS).ev = some [.ar id ver 1 0 l.length])
    (hg : hget H id = some (ver, .arr 1 e (l.map (.int .i64)))) (hl : l.length < 4611686018427387904) (k : bops P ro N all rest K ⟨(d, .tup []) :: sl, (id, ver, .arr 1 e ((sortI l).map (.int .i64))) :: H⟩) : aop P 0 [] o (fun s' => bops P ro N all rest K s') ⟨sl, H⟩ := by
  obtain ⟨h1, h2⟩ := Prod.mk.inj h0
  refine op_call h2 hf ha rfl (hS.arr H id ver e l _ hg hl ?_)
  rw [h1]
  exact bops_le (put_le (s := ⟨sl, hset H id ver _⟩) d _) (bops_le (hset_le H id ver _ _) k)
end

theorem SR.reobj {w : World} {μ : Mu} {H : Heap} (h : SR w μ H) {id ver : Nat} {o o' : AObj} (hg : hget H id = some (ver, o)) (ho : ∀ l, μ.loc id = some (ver, l) → OR w μ o l → OR w μ o' l) : SR w μ (hset H id ver o') where
  ok := h.ok
  has := fun j v x hj => by
    rw [hget_hset] at hj
    split at hj
    · rename_i e
      subst e
      cases hj
      obtain ⟨l, hl, hor⟩ := h.has j _ o hg
      exact ⟨l, hl, ho l hl hor⟩
    · exact h.has j v x hj
  only := fun j x hj => by
    rw [hget_hset]
    split
    · exact ⟨_, rfl⟩
    · exact h.only j x hj
  inj := h.inj
  held := h.held

theorem SR.le {w : World} {μ : Mu} {H H' : Heap} (h : SR w μ H) (he : ∀ j x, hget H' j = some x ↔ hget H j = some x) : SR w μ H' where
  ok := h.ok
  has := fun j v x hj => h.has j v x ((he j _).1 hj)
  only := fun j x hj => by
    obtain ⟨y, hy⟩ := h.only j x hj
    exact ⟨y, (he j y).2 hy⟩
  inj := h.inj
  held := h.held
section
variable {s : AS} {G : AS → Prop}
theorem to_ownC (id oid over n i k : Nat) (e e' : TypeId) {cells : List HV} (ho : hget s.heap oid = some (over, .arr n e' cells)) (hi : cells[i]? = some (.v (.slice none 0 0))) (hne : oid ≠ id)
    (h : ∀ ver, G { slots := s.slots, heap := (id, ver, .arr k e []) :: (oid, over, .arr n e' (cells.set i (.ar id ver k 0 0))) :: s.heap }) : s.to G := by
  intro ro N B μ a w hs
  have hE1 : Evo w μ w (μ.set id none) := Evo.repl hs.sr id none (Same.refl w) (Nat.le_refl _) (fun _ _ _ => rfl) (fun b hb => by cases hb)
  have hsr : SR w (μ.set id none) (hset s.heap id μ.nx (.arr k e [])) := hs.sr.repl id none _ (Same.refl w) (Nat.le_refl _) (fun _ _ _ => rfl) (fun b hb => by cases hb) rfl
  have hg : hget (hset s.heap id μ.nx (.arr k e [])) oid = some (over, .arr n e' cells) := by rw [hget_hset, if_neg hne]; exact ho
  have hsr2 := hsr.reobj (o' := .arr n e' (cells.set i (.ar id μ.nx k 0 0))) hg (fun l hl hor => by
    cases l with
    | none =>
      have : cells = [] := hor
      rw [this] at hi
      cases hi
    | some b =>
      obtain ⟨h0, cur, vs, rest, hrow, hcl, hrl⟩ := hor
      refine ⟨h0.set rfl i, cur, vs, rest, hrow, hcl, ?_⟩
      obtain ⟨x, hx, hxr⟩ := hrl.get hi
      have hset := RepL.set hrl (c := .ar id μ.nx k 0 0) (x := x) (.inl ⟨none, by simp [Mu.set], .inl ⟨rfl, hxr, rfl, rfl⟩⟩) i
      have hvs : vs.set i x = vs := by
        apply List.ext_getElem?
        intro j
        rw [List.getElem?_set]
        split
        · rename_i e
          subst e
          split
          · exact hx.symm
          · rename_i hlt
            rw [List.getElem?_eq_none (by omega)]
        · rfl
      rw [hvs] at hset
      exact hset)
  refine ⟨μ.set id none, _, h μ.nx, ⟨hs.size, hsr2.le fun j x => ?_, fun t hv ht => ⟨(hs.slot t hv ht).1, Rep.evo hE1 hs.sr.ok _ _ (hs.slot t hv ht).2⟩, hs.marks.evo hE1, hs.ro.evo hE1⟩, hE1⟩
  simp only [hget, hget_hset]
  by_cases h1 : j = id
  · subst h1
    rw [if_pos rfl, if_neg (Ne.symm hne), if_pos rfl]
  · rw [if_neg h1]
    by_cases h2 : j = oid
    · rw [if_pos h2, if_pos h2]
    · rw [if_neg h2, if_neg h2, if_neg h1]
end
end Go.AW

/- Laws of the loops of models. -/
namespace Go.AW
open Go

theorem loopN {S X : Type} {body : S → Option (Stp S X)} {Q : X → Prop} (n : Nat) (I : Nat → S → Prop)
    (step : ∀ i s, i < n → I i s → (∃ s', body s = some (.next s') ∧ I (i + 1) s') ∨ ∃ x, body s = some (.exit x) ∧ Q x) (fin : ∀ s, I n s → ∃ x, body s = some (.exit x) ∧ Q x) :
    ∀ (k : Nat) (s : S), k ≤ n → I k s → ∃ x, loopW body s = some x ∧ Q x := by
  intro k s hk h
  obtain ⟨d, rfl⟩ : ∃ d, n = k + d := ⟨n - k, by omega⟩
  induction d generalizing k s with
  | zero =>
    obtain ⟨x, h1, h2⟩ := fin s h
    exact ⟨x, loopW_exit h1, h2⟩
  | succ d ih =>
    rcases step k s (by omega) h with ⟨s', h1, h2⟩ | ⟨x, h1, h2⟩
    · have e : k + (d + 1) = (k + 1) + d := by omega
      rw [e] at step fin
      obtain ⟨x, h3, h4⟩ := ih (k + 1) s' h2 step fin (by omega)
      exact ⟨x, by rw [loopW_next h1]; exact h3, h4⟩
    · exact ⟨x, loopW_exit h1, h2⟩

theorem loop_any {S X : Type} {body : S → Option (Stp S X)} (st : Nat → S) (n : Nat) (p : Nat → Bool) (xr xf : X) (h : ∀ i, i < n → body (st i) = if p i = true then some (.exit xr) else some (.next (st (i + 1)))) (hf : body (st n) = some (.exit xf)) {s0 : S} (hs0 : s0 = st 0) :
    loopW body s0 = some (if (List.range n).any p = true then xr else xf) := by
  subst hs0
  obtain ⟨x, hx, hq⟩ := loopN (body := body) (Q := fun x => x = if (List.range n).any p = true then xr else xf) n (fun i s => s = st i ∧ (List.range i).any p = false) (fun i s hi ⟨hs, ha⟩ => by
    subst hs
    rw [h i hi]
    by_cases hp : p i = true
    · refine .inr ⟨xr, by rw [if_pos hp], ?_⟩
      rw [if_pos]
      exact List.any_eq_true.2 ⟨i, List.mem_range.2 hi, hp⟩
    · refine .inl ⟨_, by rw [if_neg hp], rfl, ?_⟩
      rw [List.range_succ, List.any_append, ha]
      simpa using hp) (fun s ⟨hs, ha⟩ => by subst hs; exact ⟨xf, hf, by rw [if_neg]; rw [ha]; simp⟩) 0 (st 0) (Nat.zero_le _) ⟨rfl, rfl⟩
  rw [hx, hq]

theorem loop_is {S X : Type} {body : S → Option (Stp S X)} (st : Nat → S) (n : Nat) (x : X) (h : ∀ i, i < n → body (st i) = some (.next (st (i + 1)))) (hf : body (st n) = some (.exit x)) {s0 : S} (hs0 : s0 = st 0) : loopW body s0 = some x := by
  subst hs0
  obtain ⟨y, hy, hq⟩ := loopN (body := body) (Q := fun y => y = x) n (fun i s => s = st i) (fun i s hi hs => by subst hs; exact .inl ⟨_, h i hi, rfl⟩) (fun s hs => by subst hs; exact ⟨x, hf, rfl⟩) 0 (st 0) (Nat.zero_le _) rfl
  rw [hy, hq]

theorem bindL {X R : Type} {o : Option X} {x : X} {M : X → Option R} {r : Option R} (h : o = some x) (k : M x = r) : o.bind M = r := by rw [h]; exact k
theorem lpL {V R Y : Type} {o : Option (Ou V R)} {x : Ou V R} {M : V → Option Y} {Rt : R → Option Y} {r : Option Y} (h : o = some x) (k : lpO (some x) M Rt = r) : lpO o M Rt = r := by rw [h]; exact k

theorem nx {i n : Nat} (hn : n ≤ 9223372036854775807) (h : i < n) : IntKind.wrap .i64 ((i : Int) + 1) = ((i + 1 : Nat) : Int) := by
  rw [w64 (by omega) (by omega)]; omega
theorem ix {α : Type} {l : List α} {i : Nat} (h : i < l.length) : idx l (i : Int) = some l[i] := by rw [idx_nat, List.getElem?_eq_getElem h]
theorem ix0 {α : Type} {l : List α} (h : 0 < l.length) : idx l 0 = some l[0] := ix h
theorem lt_int {i n : Nat} (h : i < n) : (i : Int) < (n : Int) := by omega
theorem not_lt_int (n : Nat) : ¬ (n : Int) < (n : Int) := by omega
end Go.AW

/- Structs of the program, and what the functions of the library that are not printed compute. -/
namespace Go.AW
open Go
abbrev TFromLabelTo := Int × Int × Int
abbrev cFromLabelTo (x : TFromLabelTo) : List HV := [HV.int .i64 x.1, HV.int .i64 x.2.1, HV.int .i64 x.2.2]
abbrev eFromLabelTo : EncL TFromLabelTo := encF 3 cFromLabelTo (fun _ => rfl)
abbrev TLabelsStatesEdges := Int × Int × (List (TFromLabelTo))
abbrev compact_ (l : List Int) : List Int := Lib.compact l
theorem compact_le (l : List Int) : (compact_ l).length ≤ l.length := by
  show (Lib.compactUpTo l.toArray l.length).length ≤ l.length
  unfold Lib.compactUpTo
  rw [List.length_map]
  exact Nat.le_trans (List.length_filter_le _ _) (by simp)
theorem compact_mem {l : List Int} {x : Int} (h : x ∈ compact_ l) : x ∈ l := by
  have h : x ∈ Lib.compactUpTo l.toArray l.length := h
  unfold Lib.compactUpTo at h
  obtain ⟨j, hj, rfl⟩ := List.mem_map.1 h
  have hj := List.mem_range.1 (List.mem_filter.1 hj).1
  have : l.toArray[j]! = l[j] := by simp [hj]
  rw [this]
  exact List.getElem_mem hj
def leaveL (es : List TFromLabelTo) (s : Int) : List (Int × TFromLabelTo) := (es.zipIdx.filter fun p => decide (p.1.1 = s)).map fun p => ((p.2 : Int), p.1)
theorem leaveL_take (es : List TFromLabelTo) (s : Int) {i : Nat} (h : i < es.length) : leaveL (es.take (i + 1)) s = leaveL (es.take i) s ++ if es[i].1 = s then [((i : Int), es[i])] else [] := by
  have e : es.take (i + 1) = es.take i ++ [es[i]] := by rw [List.take_add_one, List.getElem?_eq_getElem h]; rfl
  rw [e]
  simp only [leaveL, List.zipIdx_append, List.filter_append, List.map_append, List.length_take, Nat.min_eq_left (Nat.le_of_lt h), Nat.zero_add]
  congr 1
  by_cases hs : es[i].1 = s <;> simp [List.zipIdx_cons, hs]
theorem leaveL_split (es : List TFromLabelTo) (s : Int) : ∀ (i : Nat), ∃ rest, leaveL es s = leaveL (es.take i) s ++ rest := fun i => by
  refine ⟨((es.drop i).zipIdx (es.take i).length |>.filter fun p => decide (p.1.1 = s)).map fun p => ((p.2 : Int), p.1), ?_⟩
  conv => lhs; rw [← List.take_append_drop i es]
  simp only [leaveL, List.zipIdx_append, List.filter_append, List.map_append, Nat.zero_add]
def y_graph_leaving (g : TLabelsStatesEdges) (s : Int) : Option (List (Int × TFromLabelTo)) := if g.2.2.length ≤ 9223372036854775807 then some (leaveL g.2.2 s) else none
end Go.AW

/- Regions that draw their order, piece by piece, in lockstep; guards of single operations. -/
namespace Go.AW
open Go
theorem ACall.conv' {P : Program} {f : FuncId} {args : List HV} {H : Heap} {K K' : HV → Heap → Prop} (h : ACall P f args H K) (hc : ∀ r H', K r H' → ∃ r2 H2, Conv H' r r2 H2 ∧ K' r2 H2) : ACall P f args H K' := by
  refine ⟨h.1, fun μ w vs hs hr => (h.2 μ w vs hs hr).mono ?_⟩
  rintro e w' ⟨v, r, H', μ', rfl, hk, hs', hr', E⟩
  obtain ⟨r2, H2, hcv, hk2⟩ := hc r H' hk
  obtain ⟨μ2, hs2, hr2, E2⟩ := hcv w' μ' v hs' hr'
  exact ⟨v, r2, H2, μ2, rfl, hk2, hs2, hr2, E.trans E2⟩
section
variable {P : Program} {ro : Option Nat} {N : Nat} {s : AS} {ops : Array Oper} {o : Oper} {sl : List (Nat × HV)} {H : Heap}

theorem AnyAt.eqc {Q : Exit → AS → Prop} {q : Nat} : Eqc (AnyAt P ro N ops Q q) := fun s s' he h w0 μ0 fuel listed μ1 a1 w1 h1 h2 h3 hs hE => h w0 μ0 fuel listed μ1 a1 w1 h1 h2 h3 (hs.eqv he) hE

theorem o_callA {all : Array Oper} {rest : List Oper} {K : AS → Prop} {d : Nat} {aa : Array Operand} {ts : Array TypeId} {f : Operand} {g : FuncId} {fs hs cs args : List HV} (h0 : (o.dst, o.op) = (some d, .call ⟨.value f, aa, ts⟩)) (hf : (⟨sl, H⟩ : AS).ev f = some (.fn (.func g) fs cs)) (ha : aa.toList.mapM (⟨sl, H⟩ : AS).ev = some hs) (hargs : fs ++ hs ++ cs = args)
    (h : ACall P g args H fun r H' => bops P ro N all rest K ⟨(d, r) :: sl, H'⟩) : aop P 0 [] o (fun s' => bops P ro N all rest K s') ⟨sl, H⟩ := by
  obtain ⟨h1, h2⟩ := Prod.mk.inj h0
  refine op_call h2 hf ha hargs (h.mono fun r H' hk => ?_)
  rw [h1]
  exact bops_le (put_le (s := ⟨sl, H'⟩) d r) hk

def nyops (P : Program) (ro : Option Nat) (N : Nat) (ops : Array Oper) (K : AS → Prop) (q : Nat) (s : AS) : Prop := AnyAt P ro N ops (fun e s' => e = .normal ∧ K s') q s

theorem AW.dy {id : Nat} {Q : Exit → AS → Prop} (hm : P.follows .mixedOrders = true) (h : ∀ K : AS → Prop, (∀ s', Q .normal s' → K s') → nyops P ro N ops K 0 s) : AW P ro N (.region id ops true) Q s :=
  AW.conseq (Q' := fun e s' => e = .normal ∧ Q .normal s') (AW.any hm (h (Q .normal) fun _ h => h)) fun e s1 ⟨he, h⟩ => he ▸ ⟨s1, AS.le_refl s1, h⟩
theorem AW.dys {id : Nat} {y : Code} {Q : Exit → AS → Prop} (hm : P.follows .mixedOrders = true) (h : ∀ K : AS → Prop, (∀ s', AW P ro N y Q s' → K s') → nyops P ro N ops K 0 s) : AW P ro N (.seq (.region id ops true) y) Q s :=
  AW.seq (AW.dy hm h)
variable {K : AS → Prop}
theorem y_st {q : Nat} (p : Nat) (hok : ops.toList.all (fun o => okd N o.dst) = true) (hc : (daOk ops && Nat.ble q p && Nat.ble p ops.size && waitOk ops q p && segOk ops q p) = true)
    (h : stops P ops.toList ((ops.toList.drop q).take (p - q)) (nyops P ro N ops K p) s) : nyops P ro N ops K q s := by
  simp only [Bool.and_eq_true] at hc
  obtain ⟨⟨⟨⟨h1, h2⟩, h3⟩, h4⟩, h5⟩ := hc
  exact AnyAt.steady p _ hok h1 (Nat.le_of_ble_eq_true h2) (Nat.le_of_ble_eq_true h3) h4 h5 (fun _ h => h) (h.go AnyAt.eqc)
theorem y_nil {q : Nat} (hc : (daOk ops && (ops.size == q)) = true) (h : K s) : nyops P ro N ops K q s := by
  simp only [Bool.and_eq_true, beq_iff_eq] at hc
  obtain ⟨h1, rfl⟩ := hc
  exact AnyAt.done h1 ⟨rfl, h⟩
theorem one_op {q : Nat} {fid : Nat} {mt : List Nat} (hN : okd N o.dst = true) (h : aop P fid mt o (fun s' => bops P ro N #[] [] (nyops P ro N ops K q) s') s) : AOp P ro N o (nyops P ro N ops K q) s := by
  have hk : AOp P ro N o _ s := aop_sound hN h
  intro w0 μ0 μ a w next Q hs hE hK
  refine hk w0 μ0 μ a w next Q hs hE fun μ' s' a' w' h' hs' hE' => ?_
  have hb := h' (by simp) 0 (fun k => by simp)
  have := hb w0 μ0 μ' a' w' (fun _ a w => next a w) hs' hE' (fun μ2 s2 a2 w2 hk2 hs2 hE2 => hK μ2 s2 a2 w2 hk2 hs2 hE2)
  simpa only [List.length_nil, List.range'_zero, wpOpsIn] using this
theorem y_op {q : Nat} {fid : Nat} {mt : List Nat} (hc : (daOk ops && Nat.ble (q + 1) ops.size && waitOk ops q (q + 1)) = true) (ho : ops[q]? = some o) (hg : o.guard = none) (hN : okd N o.dst = true)
    (h : aop P fid mt o (fun s' => bops P ro N #[] [] (nyops P ro N ops K (q + 1)) s') s) : nyops P ro N ops K q s := by
  simp only [Bool.and_eq_true] at hc
  obtain ⟨⟨h1, h2⟩, h3⟩ := hc
  exact AnyAt.op h1 (Nat.le_of_ble_eq_true h2) h3 (AOpI.plain ho hg (one_op hN h))
end
end Go.AW

/- Lists of texts and of numbers; counting. -/
namespace Go.AW
open Go

theorem cnt_next {i n : Nat} (h : n ≤ 9223372036854775807) (hi : i < n) : IntKind.wrap .i64 ((i : Int) + 1) = ((i + 1 : Nat) : Int) := by
  rw [w64 (by omega) (by omega)]; omega
end Go.AW



namespace Go.Proofs
open Go

def Tryd.sortI_ren : Go.Shelf.Ren := ⟨fun | 5 => 38 | 8 => 55 | 7 => 54 | 19 => 77 | 20 => 78 | 10 => 68 | 11 => 69 | 12 => 70 | 13 => 71 | 14 => 72 | 15 => 73 | 16 => 74 | 17 => 75 | 18 => 76 | 30 => 87 | 31 => 88 | 32 => 89 | 33 => 90 | 34 => 91 | 35 => 56 | 40 => 95 | n => n, fun | 23 => 30 | 25 => 3 | 3 => 3 | 32 => 85 | 22 => 30 | 0 => 0 | 44 => 97 | 46 => 95 | 4 => 4 | 36 => 106 | 35 => 105 | 41 => 90 | 5 => 5 | 9 => 9 | 53 => 128 | 57 => 132 | 63 => 136 | 64 => 137 | n => n, fun | n => n⟩
theorem Tryd.sortI : Go.Proofs.SlLaysM.n5 Tryd.prog Tryd.sortI_ren where
  mixed := by kernel_rfl
  f5 := ⟨"slices.Sort[[]int,int]", by decide, Tryd.func38.trans (congrArg some (by kernel_rfl))⟩
  f7 := ⟨"slices.pdqsortOrdered[int]", by decide, Tryd.func54.trans (congrArg some (by kernel_rfl))⟩
  f8 := Tryd.func55.trans (congrArg some (by kernel_rfl))
  f10 := ⟨"slices.insertionSortOrdered[int]", by decide, Tryd.func68.trans (congrArg some (by kernel_rfl))⟩
  f11 := ⟨"slices.heapSortOrdered[int]", by decide, Tryd.func69.trans (congrArg some (by kernel_rfl))⟩
  f12 := ⟨"slices.breakPatternsOrdered[int]", by decide, Tryd.func70.trans (congrArg some (by kernel_rfl))⟩
  f13 := ⟨"slices.choosePivotOrdered[int]", by decide, Tryd.func71.trans (congrArg some (by kernel_rfl))⟩
  f14 := ⟨"slices.reverseRangeOrdered[int]", by decide, Tryd.func72.trans (congrArg some (by kernel_rfl))⟩
  f15 := ⟨"slices.partialInsertionSortOrdered[int]", by decide, Tryd.func73.trans (congrArg some (by kernel_rfl))⟩
  f16 := ⟨"cmp.Less[int]", by decide, Tryd.func74.trans (congrArg some (by kernel_rfl))⟩
  f17 := ⟨"slices.partitionEqualOrdered[int]", by decide, Tryd.func75.trans (congrArg some (by kernel_rfl))⟩
  f18 := ⟨"slices.partitionOrdered[int]", by decide, Tryd.func76.trans (congrArg some (by kernel_rfl))⟩
  f19 := Tryd.func77.trans (congrArg some (by kernel_rfl))
  f20 := Tryd.func78.trans (congrArg some (by kernel_rfl))
  f30 := ⟨"slices.siftDownOrdered[int]", by decide, Tryd.func87.trans (congrArg some (by kernel_rfl))⟩
  f31 := Tryd.func88.trans (congrArg some (by kernel_rfl))
  f32 := Tryd.func89.trans (congrArg some (by kernel_rfl))
  f33 := ⟨"slices.medianAdjacentOrdered[int]", by decide, Tryd.func90.trans (congrArg some (by kernel_rfl))⟩
  f34 := ⟨"slices.medianOrdered[int]", by decide, Tryd.func91.trans (congrArg some (by kernel_rfl))⟩
  f35 := ⟨"cmp.isNaN[int]", by decide, Tryd.func56.trans (congrArg some (by kernel_rfl))⟩
  f40 := ⟨"slices.order2Ordered[int]", by decide, Tryd.func95.trans (congrArg some (by kernel_rfl))⟩
  t0 := Tryd.underlying0
  a0 := Tryd.isAgg0
  z0 := Tryd.sizeOf0
  v0 := Tryd.zeroValue0
  t3 := Tryd.underlying3
  a3 := Tryd.isAgg3
  z3 := Tryd.sizeOf3
  v3 := Tryd.zeroValue3
  t4 := Tryd.underlying4
  a4 := Tryd.isAgg4
  z4 := Tryd.sizeOf4
  v4 := Tryd.zeroValue4
  t5 := Tryd.underlying5
  a5 := Tryd.isAgg5
  z5 := Tryd.sizeOf5
  v5 := Tryd.zeroValue5
  t9 := Tryd.underlying9
  a9 := Tryd.isAgg9
  z9 := Tryd.sizeOf9
  v9 := Tryd.zeroValue9
  t22 := Tryd.underlying30
  a22 := Tryd.isAgg30
  z22 := Tryd.sizeOf30
  v22 := Tryd.zeroValue30
  t23 := Tryd.underlying30
  a23 := Tryd.isAgg30
  z23 := Tryd.sizeOf30
  v23 := Tryd.zeroValue30
  t25 := Tryd.underlying3
  a25 := Tryd.isAgg3
  z25 := Tryd.sizeOf3
  v25 := Tryd.zeroValue3
  t32 := Tryd.underlying85
  a32 := Tryd.isAgg85
  z32 := Tryd.sizeOf85
  v32 := Tryd.zeroValue85
  t35 := Tryd.underlying105
  a35 := Tryd.isAgg105
  z35 := Tryd.sizeOf105
  v35 := Tryd.zeroValue105
  t36 := Tryd.underlying106
  a36 := Tryd.isAgg106
  z36 := Tryd.sizeOf106
  v36 := Tryd.zeroValue106
  t41 := Tryd.underlying90
  a41 := Tryd.isAgg90
  z41 := Tryd.sizeOf90
  v41 := Tryd.zeroValue90
  t44 := Tryd.underlying97
  a44 := Tryd.isAgg97
  z44 := Tryd.sizeOf97
  v44 := Tryd.zeroValue97
  t46 := Tryd.underlying95
  a46 := Tryd.isAgg95
  z46 := Tryd.sizeOf95
  v46 := Tryd.zeroValue95
  t53 := Tryd.underlying128
  a53 := Tryd.isAgg128
  z53 := Tryd.sizeOf128
  v53 := Tryd.zeroValue128
  t57 := Tryd.underlying132
  a57 := Tryd.isAgg132
  z57 := Tryd.sizeOf132
  v57 := Tryd.zeroValue132
  t63 := Tryd.underlying136
  a63 := Tryd.isAgg136
  z63 := Tryd.sizeOf136
  v63 := Tryd.zeroValue136
  t64 := Tryd.underlying137
  a64 := Tryd.isAgg137
  z64 := Tryd.sizeOf137
  v64 := Tryd.zeroValue137
end Go.Proofs

namespace Go.AW
open Go Go.Proofs Go.Sort

theorem repL_map {α : Type} {w : World} {μ : Mu} {f : α → HV} {g : α → Value} : ∀ {l : List α}, RepL w μ (l.map f) (l.map g) ↔ ∀ x ∈ l, Rep w μ (f x) (g x)
  | [] => by simp [RepL]
  | a :: l => by
    simp only [List.map_cons, RepL, List.mem_cons, forall_eq_or_imp]
    constructor
    · rintro ⟨x, xs, e, h1, h2⟩
      cases e
      exact ⟨h1, repL_map.1 h2⟩
    · exact fun ⟨h1, h2⟩ => ⟨_, _, rfl, h1, repL_map.2 h2⟩

theorem sorted_world {α : Type} [Inhabited α] {enc : α → Value} {f : α → HV} (hf1 : ∀ x, (f x).one = true) {w : World} {μ : Mu} {H : Heap} {id ver b k : Nat} {e : TypeId} {l d : List α} (hs : SR w μ H) (hg : hget H id = some (ver, .arr k e (l.map f)))
    (hl : μ.loc id = some (ver, some b)) (hrep : ∀ x ∈ l, Rep w μ (f x) (enc x)) (hor : OR w μ (.arr k e (l.map f)) (some b)) (hv : ∀ vs, RepL w μ (l.map f) vs → vs = l.map enc) (hp : d.Perm l) (n : Nat) (os : Array Obj) :
    SR (grow (putRow enc (Sort.ahead w n) b 0 d.toArray) os) μ (hset H id ver (.arr k e (d.map f))) ∧ Evo w μ (grow (putRow enc (Sort.ahead w n) b 0 d.toArray) os) μ := by
  obtain ⟨h0, cur, vs, rest, hrow, hcl, hrl⟩ := hor
  have hvs := hv vs hrl
  subst hvs
  have hlen : d.length = l.length := hp.length_eq
  have hcsz : cur.size = l.length + rest.length := by rw [← Array.length_toList, hcl]; simp
  -- the world with the row put
  have hb := hrow.lt
  obtain ⟨lo, hi, hbk, hfr⟩ := hrow
  have hbk' : (putRow enc (Sort.ahead w n) b 0 d.toArray).heap[b]? = some (.cells (putCells enc 0 d.toArray cur) e (lo, hi)) := by
    show (w.heap.modify b _)[b]? = _
    rw [Array.getElem?_modify, if_pos rfl, hbk]
    rfl
  have hcur' : (putCells enc 0 d.toArray cur).toList = d.map enc ++ rest := by
    apply List.ext_getElem?
    intro i
    rw [Array.getElem?_toList]
    simp only [putCells, Array.getElem?_mapIdx]
    have hc : cur[i]? = (l.map enc ++ rest)[i]? := by rw [← hcl, Array.getElem?_toList]
    rw [hc]
    rcases Nat.lt_or_ge i d.length with hi | hi
    · rw [List.getElem?_append_left (by simp; omega), List.getElem?_append_left (by simpa using hi), List.getElem?_map, List.getElem?_map, List.getElem?_eq_getElem (by omega : i < l.length), List.getElem?_eq_getElem hi]
      simp only [Option.map_some]
      rw [if_pos ⟨Nat.zero_le _, by simpa using hi⟩]
      simp [hi]
    · rw [List.getElem?_append_right (by simp; omega), List.getElem?_append_right (by simpa using hi)]
      simp only [List.length_map, hlen]
      cases rest[i - l.length]? with
      | none => rfl
      | some x =>
        simp only [Option.map_some]
        rw [if_neg (by simp; omega)]
  have hsz1 : (putRow enc (Sort.ahead w n) b 0 d.toArray).heap.size = w.heap.size := by rw [size_putRow]; rfl
  have hrow1 : Row (putRow enc (Sort.ahead w n) b 0 d.toArray) b (putCells enc 0 d.toArray cur) e := ⟨lo, hi, hbk', by simpa [putCells] using hfr⟩
  have hold : ∀ b', b' ≠ b → (putRow enc (Sort.ahead w n) b 0 d.toArray).heap[b']? = w.heap[b']? := fun b' hne => by
    show (w.heap.modify b _)[b']? = _
    rw [Array.getElem?_modify, if_neg (fun e => hne e.symm)]
  obtain ⟨h1, h2⟩ := hs.updArr (cs' := d.map f) (w' := putRow enc (Sort.ahead w n) b 0 d.toArray) hg hl ⟨rfl, rfl, rfl⟩ hsz1 hold ⟨lo, hi, hbk, hfr⟩ hrow1 (by simp [putCells]) fun E => by
    refine ⟨fun c hc => ?_, _, d.map enc, rest, hrow1, hcur', repL_map.2 fun x hx => Rep.evo E hs.ok _ _ (hrep x (hp.mem_iff.1 hx))⟩
    obtain ⟨x, _, rfl⟩ := List.mem_map.1 hc
    exact hf1 x
  have g : Grow (putRow enc (Sort.ahead w n) b 0 d.toArray) (grow (putRow enc (Sort.ahead w n) b 0 d.toArray) os) :=
    ⟨⟨rfl, rfl, rfl⟩, by rw [size_grow]; omega, fun b' hb' => by
      show (_ ++ os)[b']? = _
      rw [Array.getElem?_append_left hb']⟩
  exact ⟨h1.grow g, h2.trans (Evo.grow h1 g)⟩

theorem holds_row {α : Type} [Inhabited α] {enc : α → Value} {w : World} {b : Nat} {cur : Array Value} {e : TypeId} {l : List α} {rest : List Value} (hrow : Row w b cur e) (hcl : cur.toList = l.map enc ++ rest) : Holds enc w b 0 l.toArray := by
  intro j hj
  have hj' : j < l.length := by simpa using hj
  have hc : cur[j]? = some (enc l[j]) := by
    rw [← Array.getElem?_toList, hcl, List.getElem?_append_left (by simpa using hj'), List.getElem?_map, List.getElem?_eq_getElem hj']
    rfl
  refine ⟨?_, ?_⟩
  · rw [Nat.zero_add, hrow.cell, hc]
    simp [hj']
  · rw [Nat.zero_add]
    exact hrow.free (Array.getElem?_eq_some_iff.1 hc).1

theorem repL_ints {w : World} {μ : Mu} : ∀ {l : List Int} {vs : List Value}, RepL w μ (l.map (.int .i64)) vs → vs = l.map (Value.int .i64) ∧ ∀ x ∈ l, Rep w μ (.int .i64 x) (Value.int .i64 x)
  | [], vs, h => by simp only [List.map_nil, RepL] at h; subst h; exact ⟨rfl, by simp⟩
  | a :: l, vs, ⟨x, xs, e, h1, h2⟩ => by
    obtain ⟨h3, h4⟩ := repL_ints h2
    obtain ⟨rfl, hl⟩ := h1
    subst e
    rw [h3]
    exact ⟨rfl, by simpa using ⟨⟨rfl, hl⟩, h4⟩⟩

theorem w179 {H : Heap} {id ver : Nat} {e : TypeId} {l : List Int} {K : HV → Heap → Prop} (hg : hget H id = some (ver, .arr 1 e (l.map (.int .i64)))) (hlen : l.length < 4611686018427387904)
    (hK : K (.tup []) (hset H id ver (.arr 1 e ((sortI l).map (.int .i64))))) : ACall Tryd.prog 38 [.ar id ver 1 0 l.length] H K := by
  refine ⟨enters' Tryd.func38 rfl rfl, fun μ w vs hs hr => ?_⟩
  obtain ⟨x, xs, rfl, hr, hn⟩ := hr
  cases hn
  obtain ⟨lo, hl, hor⟩ := hs.has _ _ _ hg
  rcases hr with ⟨lo', hl', h⟩ | ⟨hd, _⟩
  · rw [hl] at hl'
    cases hl'
    rcases h with ⟨rfl, rfl, h0, _⟩ | ⟨b, cap, cur, e', rfl, rfl, hcap, _, hrow, hsz⟩
    · have h0' : l = [] := List.eq_nil_of_length_eq_zero h0
      subst h0'
      refine (AnyM.slices_Sort_int_none Tryd.sortI none 0 w).mono ?_
      rintro e' w' ⟨rfl, rfl⟩
      refine ⟨_, .tup [], _, μ, rfl, hK, ?_, ⟨[], rfl, rfl⟩, Evo.refl _ _⟩
      have : (sortI []).map (HV.int .i64) = [] := by simp [sortI]
      rw [this]
      exact hs.same hg
    · have hor' := hor
      obtain ⟨h0, cur', vs', rest, hrow', hcl, hrl⟩ := hor
      obtain ⟨hvs, hreps⟩ := repL_ints hrl
      subst hvs
      refine (AnyM.slices_Sort_int Tryd.sortI b 0 cap l w (holds_row hrow' hcl) hrow'.lt hlen).mono ?_
      rintro e2 w' ⟨rfl, n, os, rfl⟩
      obtain ⟨h1, h2⟩ := sorted_world (f := HV.int .i64) (fun _ => rfl) hs hg hl hreps hor' (fun vs hv => (repL_ints hv).1) (List.mergeSort_perm l _) n os
      exact ⟨_, .tup [], _, μ, rfl, hK, h1, ⟨[], rfl, rfl⟩, h2⟩
  · exact absurd hl (hd.2 lo)

theorem sorts179 : SortsI Tryd.prog 38 := by
  refine ⟨fun _ _ _ _ _ _ hg hl hK => w179 hg hl hK, fun H K hK => ⟨enters' Tryd.func38 rfl rfl, fun μ w vs hs hr => ?_⟩⟩
  obtain ⟨x, xs, rfl, hr, hn⟩ := hr
  cases hn
  cases hr
  refine (AnyM.slices_Sort_int_none Tryd.sortI none 0 w).mono ?_
  rintro e' w' ⟨rfl, rfl⟩
  exact ⟨_, .tup [], _, μ, rfl, hK, hs, ⟨[], rfl, rfl⟩, Evo.refl _ _⟩
end Go.AW

namespace Go.AW
open Go Go.Proofs Go.Sort Go.Lib
theorem put_world {α : Type} [Inhabited α] {enc : α → Value} {f : α → HV} (hf1 : ∀ x, (f x).one = true) {w : World} {μ : Mu} {H : Heap} {id ver b k : Nat} {e : TypeId} {l d : List α} (hs : SR w μ H) (hg : hget H id = some (ver, .arr k e (l.map f)))
    (hl : μ.loc id = some (ver, some b)) (hrep : ∀ x ∈ d, Rep w μ (f x) (enc x)) (hor : OR w μ (.arr k e (l.map f)) (some b)) (hv : ∀ vs, RepL w μ (l.map f) vs → vs = l.map enc) (hlen : d.length = l.length) (n : Nat) :
    SR (putRow enc (Sort.ahead w n) b 0 d.toArray) μ (hset H id ver (.arr k e (d.map f))) ∧ Evo w μ (putRow enc (Sort.ahead w n) b 0 d.toArray) μ := by
  obtain ⟨h0, cur, vs, rest, hrow, hcl, hrl⟩ := hor
  have hvs := hv vs hrl
  subst hvs
  have hcsz : cur.size = l.length + rest.length := by rw [← Array.length_toList, hcl]; simp
  obtain ⟨lo, hi, hbk, hfr⟩ := hrow
  have hbk' : (putRow enc (Sort.ahead w n) b 0 d.toArray).heap[b]? = some (.cells (putCells enc 0 d.toArray cur) e (lo, hi)) := by
    show (w.heap.modify b _)[b]? = _
    rw [Array.getElem?_modify, if_pos rfl, hbk]
    rfl
  have hcur' : (putCells enc 0 d.toArray cur).toList = d.map enc ++ rest := by
    apply List.ext_getElem?
    intro i
    rw [Array.getElem?_toList]
    simp only [putCells, Array.getElem?_mapIdx]
    have hc : cur[i]? = (l.map enc ++ rest)[i]? := by rw [← hcl, Array.getElem?_toList]
    rw [hc]
    rcases Nat.lt_or_ge i d.length with hi | hi
    · rw [List.getElem?_append_left (by simp; omega), List.getElem?_append_left (by simpa using hi), List.getElem?_map, List.getElem?_map, List.getElem?_eq_getElem (by omega : i < l.length), List.getElem?_eq_getElem hi]
      simp only [Option.map_some]
      rw [if_pos ⟨Nat.zero_le _, by simpa using hi⟩]
      simp [hi]
    · rw [List.getElem?_append_right (by simp; omega), List.getElem?_append_right (by simpa using hi)]
      simp only [List.length_map, hlen]
      cases rest[i - l.length]? with
      | none => rfl
      | some x =>
        simp only [Option.map_some]
        rw [if_neg (by simp; omega)]
  have hsz1 : (putRow enc (Sort.ahead w n) b 0 d.toArray).heap.size = w.heap.size := by rw [size_putRow]; rfl
  have hrow1 : Row (putRow enc (Sort.ahead w n) b 0 d.toArray) b (putCells enc 0 d.toArray cur) e := ⟨lo, hi, hbk', by simpa [putCells] using hfr⟩
  have hold : ∀ b', b' ≠ b → (putRow enc (Sort.ahead w n) b 0 d.toArray).heap[b']? = w.heap[b']? := fun b' hne => by
    show (w.heap.modify b _)[b']? = _
    rw [Array.getElem?_modify, if_neg (fun e => hne e.symm)]
  exact hs.updArr (cs' := d.map f) (w' := putRow enc (Sort.ahead w n) b 0 d.toArray) hg hl ⟨rfl, rfl, rfl⟩ hsz1 hold ⟨lo, hi, hbk, hfr⟩ hrow1 (by simp [putCells]) fun E => by
    refine ⟨fun c hc => ?_, _, d.map enc, rest, hrow1, hcur', repL_map.2 fun x hx => Rep.evo E hs.ok _ _ (hrep x hx)⟩
    obtain ⟨x, _, rfl⟩ := List.mem_map.1 hc
    exact hf1 x
end Go.AW

namespace Go.Proofs
open Go
def Tryd.compI_ren : Go.Shelf.Ren := ⟨fun | 20 => 39 | n => n, fun | 22 => 30 | 3 => 3 | 4 => 4 | 0 => 0 | n => n, fun | n => n⟩
theorem Tryd.compI : Go.Proofs.Lays2.n20 Tryd.prog Tryd.compI_ren where
  mixed := by kernel_rfl
  f20 := Tryd.func39.trans (congrArg some (by kernel_rfl))
  t0 := Tryd.underlying0
  a0 := Tryd.isAgg0
  z0 := Tryd.sizeOf0
  v0 := Tryd.zeroValue0
  t3 := Tryd.underlying3
  a3 := Tryd.isAgg3
  z3 := Tryd.sizeOf3
  v3 := Tryd.zeroValue3
  t4 := Tryd.underlying4
  a4 := Tryd.isAgg4
  z4 := Tryd.sizeOf4
  v4 := Tryd.zeroValue4
  t22 := Tryd.underlying30
  a22 := Tryd.isAgg30
  z22 := Tryd.sizeOf30
  v22 := Tryd.zeroValue30
  i3 := by kernel_rfl
end Go.Proofs
namespace Go.AW
open Go Go.Proofs Go.Sort Go.Lib
set_option linter.unusedVariables false

theorem c_sortI : SortsI Tryd.prog 38 := sorts179
theorem w180 {H : Heap} {id ver : Nat} {e : TypeId} {l : List Int} {K : HV → Heap → Prop} (hg : hget H id = some (ver, .arr 1 e (l.map (.int .i64))))
    (hK : K (.ar id ver 1 0 (compact_ l).length) (hset H id ver (.arr 1 e ((compact_ l ++ List.replicate (l.length - (compact_ l).length) 0).map (.int .i64))))) : ACall Tryd.prog 39 [.ar id ver 1 0 l.length] H K := by
  refine ⟨enters' Tryd.func39 rfl rfl, fun μ w vs hs hr => ?_⟩
  obtain ⟨x, xs, rfl, hr, hn⟩ := hr
  cases hn
  obtain ⟨lo, hl, hor⟩ := hs.has _ _ _ hg
  rcases hr with ⟨lo', hl', h⟩ | ⟨hd, _⟩
  · rw [hl] at hl'
    cases hl'
    rcases h with ⟨rfl, rfl, h0, _⟩ | ⟨b, cap, cur, e', rfl, rfl, hcap, hcm, hrow, hsz⟩
    · have hl0 := List.eq_nil_of_length_eq_zero h0
      subst hl0
      refine (Any.slices_Compact_int_empty Tryd.compI none 0 w).mono ?_
      rintro e2 w' ⟨rfl, rfl⟩
      refine ⟨_, .ar id ver 1 0 0, _, μ, rfl, hK, hs.reobj hg fun l hl hor => hor, .inl ⟨none, hl, .inl ⟨rfl, rfl, rfl, rfl⟩⟩, Evo.refl _ _⟩
    · have hor' := hor
      obtain ⟨h0, cur', vs', rest, hrow', hcl, hrl⟩ := hor
      obtain ⟨hvs, hreps⟩ := repL_ints hrl
      subst hvs
      refine (Any.slices_Compact_int Tryd.compI b 0 cap l w (holds_row hrow' hcl) (by have := hcm; simp only [maxLen] at this; omega) hcap).mono ?_
      · rintro e2 w' ⟨rfl, n, rfl⟩
        have hle := compact_le l
        have hlen : (compact_ l ++ List.replicate (l.length - (compact_ l).length) (0 : Int)).length = l.length := by simp; omega
        obtain ⟨h1, h2⟩ := put_world (f := HV.int .i64) (fun _ => rfl) hs hg hl (d := compact_ l ++ List.replicate (l.length - (compact_ l).length) 0) (fun x hx => by
          rcases List.mem_append.1 hx with hx | hx
          · exact hreps x (compact_mem hx)
          · rw [List.eq_of_mem_replicate hx]; exact ⟨rfl, rfl⟩) hor' (fun vs hv => (repL_ints hv).1) hlen n
        refine ⟨_, .ar id ver 1 0 (compact_ l).length, _, μ, rfl, hK, h1, .inl ⟨some b, hl, .inr ⟨b, cap, putCells (Value.int .i64) 0 (compact_ l ++ List.replicate (l.length - (compact_ l).length) 0).toArray cur, e', rfl, by simp, by omega, hcm, ?_, ?_⟩⟩, h2⟩
        · obtain ⟨lo, hi, hbk, hfr⟩ := hrow
          refine ⟨lo, hi, ?_, by simpa [putCells] using hfr⟩
          show (w.heap.modify b _)[b]? = _
          rw [Array.getElem?_modify, if_pos rfl, hbk]
          rfl
        · simp only [putCells, Array.size_mapIdx]; exact hsz
  · exact absurd hl (hd.2 lo)

theorem c_compactI {H H' : Heap} {id ver n : Nat} {e : TypeId} {l : List Int} {K : HV → Heap → Prop} (hn : n = l.length) (hg : hget H id = some (ver, .arr 1 e (l.map (.int .i64)))) (hle : ∀ j x, hget H' j = some x → hget H j = some x) (hno : hget H' id = none)
    (hK : K (slE eInt (compact_ l)) H') : ACall Tryd.prog 39 [.ar id ver 1 0 n] H K := by
  subst hn
  have hlen := compact_le l
  refine ACall.freeze 2 [(id, ver, .arr 1 e ((compact_ l ++ List.replicate (l.length - (compact_ l).length) 0).map (.int .i64)))] H' (w180 hg ⟨fun j x hx => ?_, fun j x hx => ?_, ?_⟩)
  · rw [hget_hset, if_neg (fun e => by rw [e, hno] at hx; cases hx)]
    exact hle j x hx
  · simp only [hget] at hx
    split at hx
    · rename_i e
      subst e
      cases hx
      exact ⟨by rw [hget_hset, if_pos rfl], hno⟩
    · cases hx
  · have : frz 2 [(id, ver, .arr 1 e ((compact_ l ++ List.replicate (l.length - (compact_ l).length) 0).map (.int .i64)))] (.ar id ver 1 0 (compact_ l).length) = slE eInt (compact_ l) := by
      have h0 : hget [(id, ver, AObj.arr 1 e ((compact_ l ++ List.replicate (l.length - (compact_ l).length) 0).map (.int .i64)))] id = some (ver, .arr 1 e ((compact_ l ++ List.replicate (l.length - (compact_ l).length) 0).map (.int .i64))) := by simp only [hget, if_true]
      rw [frz, h0]
      have h1 : ver = ver ∧ 0 + (compact_ l).length * 1 ≤ ((compact_ l ++ List.replicate (l.length - (compact_ l).length) (0 : Int)).map (HV.int .i64)).length := ⟨rfl, by simp⟩
      refine (if_pos h1).trans ?_
      rw [List.drop_zero, Nat.mul_one, List.map_append, List.take_left' (List.length_map _), List.map_map]
      rfl
    rw [this]
    exact hK

end Go.AW

/- Regions that draw their order, with one operation that may be done late. -/
namespace Go.AW
open Go

section
variable {P : Program} {ro : Option Nat} {N : Nat} {s : AS}

def AnyAtZ (P : Program) (ro : Option Nat) (N : Nat) (ops : Array Oper) (Q : Exit → AS → Prop) (q z : Nat) (s : AS) : Prop :=
  ∀ (w0 : World) (μ0 : Mu) (fuel : Nat) (listed : Array Bool) (μ1 : Mu) (a1 : Act) (w1 : World) (s1 : AS), listed.size = ops.size → cnt listed ≤ fuel → (∀ i, i < ops.size → i ≠ z → listed.getD i false = decide (i < q)) →
    s1.heap = s.heap → (∀ t, dstOf ops z ≠ some t → sget s1.slots t = sget s.slots t) → (listed.getD z false = true → ∀ t, sget s1.slots t = sget s.slots t) →
    SRel ro N w0.heap.size μ1 s1 a1 w1 → Evo w0 μ0 w1 μ1 → wpAnyIn (fence ro) 0 P .any ops (Post ro N Q w0 μ0) fuel listed a1 w1

def waitOkZ (ops : Array Oper) (q p z : Nat) : Bool := (List.range ops.size).all fun i => decide (i < p) || ((List.range p).all fun k => decide (k < q) || ((k == z) || (clos ops i).contains k))
theorem waitOkZ_spec {ops : Array Oper} {q p z : Nat} (h : waitOkZ ops q p z = true) : ∀ i, p ≤ i → i < ops.size → ∀ k, q ≤ k → k < p → k ≠ z → k ∈ clos ops i := by
  simp only [waitOkZ, List.all_eq_true, List.mem_range, Bool.or_eq_true, decide_eq_true_eq, List.contains_iff_mem, beq_iff_eq] at h
  intro i hpi hi k hqk hkp hkz
  exact (((h i hi).resolve_left (by omega) k hkp).resolve_left (by omega)).resolve_left hkz

theorem AnyAt.steadyZ {ops : Array Oper} {Q : Exit → AS → Prop} {q : Nat} (p z : Nat) (tail : AS → Prop) (hok : ops.toList.all (fun o => okd N o.dst) = true) (hda : daOk ops = true) (hqp : q ≤ p) (hp : p ≤ ops.size) (hw : waitOkZ ops q p z = true) (hseg : segOk ops q p = true)
    (htail : ∀ s1, tail s1 → AnyAtZ P ro N ops Q p z s1) (h : asteps P ops.toList ((ops.toList.drop q).take (p - q)) tail s) : AnyAt P ro N ops Q q s := by
  have hda' := daOk_spec hda
  have hchain := waitOkZ_spec hw
  simp only [segOk, Bool.and_eq_true, Bool.or_eq_true, decide_eq_true_eq, List.all_eq_true, List.mem_range] at hseg
  obtain ⟨hdis, hlook⟩ := hseg
  obtain ⟨plan, St, hS0, hK, hplan⟩ := asteps_plan (ro := ro) hok ((ops.toList.drop q).take (p - q)) q s (fun k hk => by
    simp at hk
    rw [List.getElem?_take_of_lt (by omega), List.getElem?_drop, Array.getElem?_toList]) h
  have hlen : ((ops.toList.drop q).take (p - q)).length = p - q := by simp; omega
  rw [hlen] at hK hplan
  have hqpp : q + (p - q) = p := by omega
  rw [hqpp] at hK
  have hdis' : ∀ i k, q ≤ i → i < p → q ≤ k → k < p → k ≠ i → ∀ d, dstOf ops i = some d → dstOf ops k ≠ some d := fun i k hqi hi hqk hk hki d hdi => by
    have := ((hdis i hi).resolve_left (by omega) k hk).resolve_left (by omega)
    rw [hdi] at this
    simp only [beq_iff_eq, bne_iff_ne] at this
    exact this.resolve_left fun e => hki e.symm
  have hplan' : ∀ i, q ≤ i → i < p → ∃ o, ops[i]? = some o ∧ PureAt P ro N ops i o (plan i) (St i) ∧ ((St i).put o.dst (plan i)).eqv (St (i + 1)) := fun i hqi hi => by
    have := hplan (i - q) (by omega)
    rw [show q + (i - q) = i by omega] at this
    exact this
  have hJ : ∀ j, q ≤ j → j ≤ p → JQ ops q p plan (St q) (fun i => q ≤ i ∧ i < j) (St j) := by
    intro j hqj
    obtain ⟨d, rfl⟩ : ∃ d, j = q + d := ⟨j - q, by omega⟩
    clear hqj
    induction d with
    | zero => exact fun _ => ⟨rfl, fun _ _ _ _ hx => by omega, fun _ _ => rfl⟩
    | succ d ih =>
      intro hj
      obtain ⟨o, ho, _, he⟩ := hplan' (q + d) (by omega) (by omega)
      exact (ih (by omega)).step ho (by omega) (by omega) (fun k hqk hk hkj => hdis' (q + d) k (by omega) (by omega) hqk hk hkj) (fun k => by omega) he
  intro w0 μ0
  have main : ∀ (fuel : Nat) (listed : Array Bool) (s1 : AS) (μ1 : Mu) (a1 : Act) (w1 : World), listed.size = ops.size → cnt listed ≤ fuel → (∀ i, i < ops.size → listed.getD i false = true → ∀ k ∈ da ops i, listed.getD k false = true) →
      (∀ i, i < q → listed.getD i false = true) → (∀ i, p ≤ i → i < ops.size → listed.getD i false = false) → JQ ops q p plan (St q) (fun i => listed.getD i false = true) s1 → SRel ro N w0.heap.size μ1 s1 a1 w1 → Evo w0 μ0 w1 μ1 →
      wpAnyIn (fence ro) 0 P .any ops (Post ro N Q w0 μ0) fuel listed a1 w1 := by
    intro fuel
    have fin : ∀ (fuel : Nat) (listed : Array Bool) (s1 : AS) (μ1 : Mu) (a1 : Act) (w1 : World), listed.size = ops.size → cnt listed ≤ fuel → (∀ i, i < p → i ≠ z → listed.getD i false = true) →
        (∀ i, p ≤ i → i < ops.size → listed.getD i false = false) → JQ ops q p plan (St q) (fun i => listed.getD i false = true) s1 → SRel ro N w0.heap.size μ1 s1 a1 w1 → Evo w0 μ0 w1 μ1 →
        wpAnyIn (fence ro) 0 P .any ops (Post ro N Q w0 μ0) fuel listed a1 w1 := by
      intro fuel listed s1 μ1 a1 w1 hl hc hall htl hj hs1 hE1
      have hp1 := hJ p hqp (Nat.le_refl _)
      refine htail _ hK w0 μ0 fuel listed μ1 a1 w1 s1 hl hc (fun i hi hiz => ?_) (hj.1.trans hp1.1.symm) (fun t ht => ?_) (fun hlz t => ?_) hs1 hE1
      · by_cases hip : i < p
        · rw [hall i hip hiz]; simp [hip]
        · rw [htl i (by omega) hi]; simp [hip]
      · by_cases hx : ∃ i, q ≤ i ∧ i < p ∧ dstOf ops i = some t
        · obtain ⟨i, hqi, hi, hdi⟩ := hx
          have hiz : i ≠ z := fun e => ht (by rw [← e]; exact hdi)
          rw [hp1.2.1 i t hqi hi ⟨hqi, hi⟩ hdi, hj.2.1 i t hqi hi (hall i hi hiz) hdi]
        · rw [hp1.2.2 t (fun i hqi hi _ hdi => hx ⟨i, hqi, hi, hdi⟩), hj.2.2 t (fun i hqi hi _ hdi => hx ⟨i, hqi, hi, hdi⟩)]
      · have hall' : ∀ i, i < p → listed.getD i false = true := fun i hi => by
          by_cases e : i = z
          · rw [e]; exact hlz
          · exact hall i hi e
        by_cases hx : ∃ i, q ≤ i ∧ i < p ∧ dstOf ops i = some t
        · obtain ⟨i, hqi, hi, hdi⟩ := hx
          rw [hp1.2.1 i t hqi hi ⟨hqi, hi⟩ hdi, hj.2.1 i t hqi hi (hall' i hi) hdi]
        · rw [hp1.2.2 t (fun i hqi hi _ hdi => hx ⟨i, hqi, hi, hdi⟩), hj.2.2 t (fun i hqi hi _ hdi => hx ⟨i, hqi, hi, hdi⟩)]
    induction fuel with
    | zero =>
      intro listed s1 μ1 a1 w1 hl hc hcl hold htl hj hs1 hE1
      refine fin 0 listed s1 μ1 a1 w1 hl hc (fun i hi _ => ?_) htl hj hs1 hE1
      cases hh : listed.getD i false with
      | true => rfl
      | false =>
        have := cnt_pos (listed := listed) (i := i) (by rw [getD_tf (by omega)]; exact hh)
        omega
    | succ fuel ih =>
      intro listed s1 μ1 a1 w1 hl hc hcl hold htl hj hs1 hE1
      by_cases hall : ∀ i, i < p → i ≠ z → listed.getD i false = true
      · exact fin (fuel + 1) listed s1 μ1 a1 w1 hl hc hall htl hj hs1 hE1
      · refine ⟨fun hr => ?_, fun i hi => ?_⟩
        · exfalso
          obtain ⟨j, ⟨hjp, hjl⟩, hmin⟩ := least (fun j => j < p ∧ listed.getD j false = false) (by
            refine Classical.byContradiction fun hno => hall fun i hi _ => ?_
            cases hh : listed.getD i false with
            | true => rfl
            | false => exact absurd ⟨i, hi, hh⟩ hno)
          have := ready_of hda' hl (by omega : j < ops.size) hjl fun k hk => by
            cases hh : listed.getD k false with
            | true => rfl
            | false => have := hmin k ⟨by omega, hh⟩; omega
          rw [hr] at this
          cases this
        · have hdone := deps_done hi
          obtain ⟨h0, o, ho, hwait⟩ := mem_ready.1 hi
          have his := (Array.getElem?_eq_some_iff.1 ho).1
          have hil : listed.getD i false = false := by rw [← getD_tf (by omega)]; exact h0
          have hqi : q ≤ i := by
            rcases Nat.lt_or_ge i q with h | h
            · have := hold i h; rw [hil] at this; cases this
            · exact h
          have hip : i < p := by
            rcases Nat.lt_or_ge i p with h | h
            · exact h
            · exfalso
              refine hall fun k hk hkz => ?_
              rcases Nat.lt_or_ge k q with hkq | hkq
              · exact hold k hkq
              · refine clos_ind (fun k => listed.getD k false = true) hdone (fun k hki hkl m hm => ?_) k (hchain i h his k hkq hk hkz)
                exact hcl k (by omega) hkl m hm
          obtain ⟨o', ho', hpure, _⟩ := hplan' i hqi hip
          rw [ho] at ho'
          cases ho'
          have hSi := hJ i hqi (by omega)
          have hagree : ∀ t ∈ o.looksAt ops, sget s1.slots t = sget (St i).slots t := by
            intro t ht
            by_cases hx : ∃ k, q ≤ k ∧ k < p ∧ dstOf ops k = some t
            · obtain ⟨k, hqk, hk, hdk⟩ := hx
              have hc2 := ((hlook i hip).resolve_left (by omega) k hk).resolve_left (by omega)
              rw [hdk, ho] at hc2
              simp only [Bool.or_eq_true, Bool.not_eq_true', List.contains_eq_mem, decide_eq_false_iff_not] at hc2
              have hc3 := hc2.resolve_left (fun hn => hn ht)
              by_cases hki : k < i
              · rw [if_pos hki] at hc3
                have hkd : k ∈ da ops i := by simpa using hc3
                rw [hSi.2.1 k t hqk hk ⟨hqk, hki⟩ hdk, hj.2.1 k t hqk hk (hdone k hkd) hdk]
              · rw [if_neg hki] at hc3
                have hkn : listed.getD k false = false := by
                  rcases (by simpa using hc3 : k = i ∨ i ∈ da ops k) with e | hik
                  · rw [e]; exact hil
                  · cases hh : listed.getD k false with
                    | false => rfl
                    | true =>
                      have := hcl k (by omega) hh i hik
                      rw [hil] at this
                      cases this
                rw [hSi.2.2 t (fun m hqm hm hmi hdm => ?_), hj.2.2 t (fun m hqm hm hml hdm => ?_)]
                · by_cases hmk : m = k
                  · subst hmk
                    have hml' : listed.getD m false = true := hml
                    rw [hkn] at hml'
                    cases hml'
                  · exact hdis' k m hqk hk hqm hm hmk t hdk hdm
                · by_cases hmk : m = k
                  · subst hmk; omega
                  · exact hdis' k m hqk hk hqm hm hmk t hdk hdm
            · rw [hSi.2.2 t (fun m hqm hm _ hdm => hx ⟨m, hqm, hm, hdm⟩), hj.2.2 t (fun m hqm hm _ hdm => hx ⟨m, hqm, hm, hdm⟩)]
          refine hpure s1 (hj.1.trans hSi.1.symm) hagree (fun s2 => s2 = s1.put o.dst (plan i)) rfl w0 μ0 μ1 a1 w1 _ _ hs1 hE1 ?_
          rintro μ2 s2 a2 w2 rfl hs2 hE2
          have hset : ∀ k, (listed.setIfInBounds i true).getD k false = true ↔ listed.getD k false = true ∨ k = i := fun k => by
            by_cases hki : i = k
            · subst hki
              have : i < listed.size := by omega
              simp [this]
            · rw [getD_set_ne false hki]
              exact ⟨.inl, fun h => h.resolve_right fun e => hki e.symm⟩
          have hcnt := cnt_set (listed := listed) (i := i) h0
          refine ih (listed.setIfInBounds i true) _ μ2 a2 w2 (by simp [hl]) (by omega) (fun j hj hlj k hk => ?_) (fun j hjq => (hset j).2 (.inl (hold j hjq))) (fun j hpj hjs => ?_) (hj.step ho hqi hip (fun k hqk hk hki => hdis' i k hqi hip hqk hk hki) (fun k => hset k) (AS.eqv.refl _)) hs2 hE2
          · rcases (hset j).1 hlj with h | rfl
            · exact (hset k).2 (.inl (hcl j hj h k hk))
            · exact (hset k).2 (.inl (hdone k hk))
          · cases hh : (listed.setIfInBounds i true).getD j false with
            | false => rfl
            | true =>
              rcases (hset j).1 hh with h | h
              · rw [htl j hpj hjs] at h; cases h
              · omega
  intro fuel listed μ1 a1 w1 hl hc hlist hs hE
  have hs' : SRel ro N w0.heap.size μ1 (St q) a1 w1 := hs.eqv hS0
  refine main fuel listed (St q) μ1 a1 w1 hl hc (fun i hi hli k hk => ?_) (fun i hi => ?_) (fun i hpi hi => ?_) ⟨rfl, fun i t hqi hi hli => ?_, fun t _ => rfl⟩ hs' hE
  · have hki := hda' i hi k hk
    rw [hlist i hi] at hli
    rw [hlist k (by omega)]
    simp at hli ⊢
    omega
  · rw [hlist i (by omega)]; simp [hi]
  · rw [hlist i hi]; simp; omega
  · have hli' : listed.getD i false = true := hli
    rw [hlist i (by omega)] at hli'
    simp at hli'
    omega


theorem AnyAtZ.op {ops : Array Oper} {Q : Exit → AS → Prop} {q z : Nat} {t : AS} (hda : daOk ops = true) (hq : q < ops.size) (hzq : z < q) (hw : waitOk ops q (q + 1) = true) (hwz : ∀ i, q < i → i < ops.size → z ∈ clos ops i) (hno : ∀ k, k ≤ q → k ≠ z → ¬ z ∈ da ops k)
    (hz0 : ∀ s1 : AS, s1.heap = s.heap → (∀ u, dstOf ops z ≠ some u → sget s1.slots u = sget s.slots u) → AOpI P ro N ops z (fun s2 => s2.heap = s.heap ∧ ∀ u, sget s2.slots u = sget s.slots u) s1)
    (hz1 : ∀ s1 : AS, s1.heap = t.heap → (∀ u, dstOf ops z ≠ some u → sget s1.slots u = sget t.slots u) → AOpI P ro N ops z (fun s2 => s2.heap = t.heap ∧ ∀ u, sget s2.slots u = sget t.slots u) s1)
    (hop : ∀ s1 : AS, s1.heap = s.heap → (∀ u, dstOf ops z ≠ some u → sget s1.slots u = sget s.slots u) → AOpI P ro N ops q (fun s2 => s2.heap = t.heap ∧ (∀ u, dstOf ops z ≠ some u → sget s2.slots u = sget t.slots u) ∧ ((∀ u, sget s1.slots u = sget s.slots u) → ∀ u, sget s2.slots u = sget t.slots u)) s1)
    (h : AnyAt P ro N ops Q (q + 1) t) : AnyAtZ P ro N ops Q q z s := by
  intro w0 μ0 fuel listed μ1 a1 w1 s1 hl hc hlist hh hsl hall hs hE
  have hda' := daOk_spec hda
  -- when z is done
  have done : ∀ (fuel : Nat) (listed : Array Bool) (μ1 : Mu) (a1 : Act) (w1 : World) (s1 : AS), listed.size = ops.size → cnt listed ≤ fuel → (∀ i, i < ops.size → listed.getD i false = decide (i < q)) → s1.heap = s.heap → (∀ u, sget s1.slots u = sget s.slots u) →
      SRel ro N w0.heap.size μ1 s1 a1 w1 → Evo w0 μ0 w1 μ1 → wpAnyIn (fence ro) 0 P .any ops (Post ro N Q w0 μ0) fuel listed a1 w1 := by
    intro fuel listed μ1 a1 w1 s1 hl hc hlist hh hsl hs hE
    refine AnyAt.op (s := s1) hda hq hw ?_ w0 μ0 fuel listed μ1 a1 w1 hl hc hlist hs hE
    have hk := hop s1 hh (fun u _ => hsl u)
    intro w0 μ0 μ a w next Q' hs hE hK
    refine hk w0 μ0 μ a w next Q' hs hE fun μ2 s2 a2 w2 hk2 hs2 hE2 => hK μ2 s2 a2 w2 ?_ hs2 hE2
    intro w3 μ3 fuel3 listed3 μ4 a4 w4 h1 h2 h3 h4 h5
    exact h w3 μ3 fuel3 listed3 μ4 a4 w4 h1 h2 h3 (h4.eqv ⟨hk2.1.symm, fun u => (hk2.2.2 hsl u).symm⟩) h5
  by_cases hlz : listed.getD z false = true
  · refine done fuel listed μ1 a1 w1 s1 hl hc (fun i hi => ?_) hh (hall hlz) hs hE
    by_cases e : i = z
    · rw [e, hlz]; simp [hzq]
    · exact hlist i hi e
  · have hzf : listed.getD z false = false := by simpa using hlz
    have hqn : listed.getD q false = false := by rw [hlist q hq (by omega)]; simp
    cases fuel with
    | zero =>
      have := cnt_pos (listed := listed) (i := q) (by rw [getD_tf (by omega)]; exact hqn)
      omega
    | succ fuel =>
      refine ⟨fun hr => ?_, fun i hi => ?_⟩
      · exfalso
        have := ready_of hda' hl (by omega : z < ops.size) hzf fun k hk => by rw [hlist k (by omega) (by omega)]; simp; omega
        rw [hr] at this
        cases this
      · have hdone := deps_done hi
        obtain ⟨h0, o, ho, _⟩ := mem_ready.1 hi
        have his := (Array.getElem?_eq_some_iff.1 ho).1
        by_cases hiz : i = z
        · subst hiz
          refine hz0 s1 hh hsl w0 μ0 μ1 a1 w1 _ _ hs hE fun μ2 s2 a2 w2 hk hs2 hE2 => done fuel _ μ2 a2 w2 s2 (by simp [hl]) ?_ (fun k hk => ?_) hk.1 hk.2 hs2 hE2
          · have := cnt_set (listed := listed) (i := i) h0
            omega
          · by_cases hki : i = k
            · subst hki
              have : i < listed.size := by omega
              simp [this, hzq]
            · rw [getD_set_ne false hki, hlist k hk (fun e => hki e.symm)]
        · rw [getD_tf (by omega), hlist i his hiz] at h0
          have hqi : q ≤ i := by simpa using h0
          have hiq : i = q := by
            rcases Nat.lt_or_ge q i with hlt | hge
            · exfalso
              have hc := waitOk_spec hw i hlt his q (Nat.le_refl _) (Nat.lt_succ_self _)
              have := clos_ind (fun k => k < q) (fun k hk => by
                have hd := hdone k hk
                by_cases e : k = z
                · omega
                · rw [hlist k (Nat.lt_trans (hda' i his k hk) his) e] at hd
                  simpa using hd) (fun k hki hkq m hm => Nat.lt_trans (hda' k (by omega) m hm) hkq) q hc
              omega
            · omega
          subst hiq
          refine hop s1 hh hsl w0 μ0 μ1 a1 w1 _ _ hs hE fun μ2 s2 a2 w2 hk hs2 hE2 => ?_
          -- now z alone is ready
          have hl2 : (listed.setIfInBounds i true).size = ops.size := by simp [hl]
          have hc2 := cnt_set (listed := listed) (i := i) (by rw [getD_tf (by omega)]; exact hqn)
          have hz2 : (listed.setIfInBounds i true).getD z false = false := by rw [getD_set_ne false hiz]; exact hzf
          have hlist2 : ∀ k, k < ops.size → k ≠ z → (listed.setIfInBounds i true).getD k false = decide (k < i + 1) := fun k hk hkz => by
            by_cases hki : i = k
            · subst hki
              have : i < listed.size := by omega
              simp [this]
            · rw [getD_set_ne false hki, hlist k hk hkz]
              congr 1
              apply propext
              omega
          cases fuel with
          | zero =>
            have := cnt_pos (listed := listed.setIfInBounds i true) (i := z) (by rw [getD_tf (by omega)]; exact hz2)
            omega
          | succ fuel =>
            refine ⟨fun hr => ?_, fun j hj => ?_⟩
            · exfalso
              have := ready_of hda' hl2 (by omega : z < ops.size) hz2 fun k hk => by rw [hlist2 k (by omega) (by omega)]; simp; omega
              rw [hr] at this
              cases this
            · have hdone2 := deps_done hj
              obtain ⟨h02, o2, ho2, _⟩ := mem_ready.1 hj
              have hjs := (Array.getElem?_eq_some_iff.1 ho2).1
              have hjz : j = z := by
                apply Classical.byContradiction
                intro hjz
                rw [getD_tf (by omega), hlist2 j hjs hjz] at h02
                have hij : i + 1 ≤ j := by simpa using h02
                have hcz := hwz j (by omega) hjs
                have := clos_ind (fun k => k ≠ z ∧ k < i + 1) (fun k hk => by
                  have hd := hdone2 k hk
                  have hkz : k ≠ z := fun e => by rw [e, hz2] at hd; cases hd
                  rw [hlist2 k (Nat.lt_trans (hda' j hjs k hk) hjs) hkz] at hd
                  exact ⟨hkz, by simpa using hd⟩) (fun k hkj hkz m hm => ?_) z hcz
                · exact this.1 rfl
                · have hmk := hda' k (by omega) m hm
                  refine ⟨fun e => ?_, by omega⟩
                  -- an operation that is done waits on z: it would not be done
                  exact absurd e (by intro e; exact hno k (by omega) hkz.1 (by rw [← e]; exact hm))
              subst hjz
              refine hz1 s2 hk.1 hk.2.1 w0 μ0 μ2 a2 w2 _ _ hs2 hE2 fun μ3 s3 a3 w3 hk3 hs3 hE3 => h w0 μ0 fuel _ μ3 a3 w3 (by simp [hl]) ?_ (fun k hk => ?_) (hs3.eqv ⟨hk3.1.symm, fun u => (hk3.2 u).symm⟩) hE3
              · have := cnt_set (listed := listed.setIfInBounds i true) (i := j) h02
                omega
              · by_cases hkj : j = k
                · subst hkj
                  have : j < (listed.setIfInBounds i true).size := by omega
                  simp only [Array.getD_eq_getD_getElem?]
                  rw [Array.getElem?_setIfInBounds_self_of_lt this]
                  simp; omega
                · rw [getD_set_ne false hkj, hlist2 k hk (fun e => hkj e.symm)]
end
end Go.AW

/- copy in lockstep; a region with an operation that may be done late. -/
namespace Go.AW
open Go
section
variable {P : Program} {ro : Option Nat} {N : Nat} {s : AS} {ops : Array Oper} {o : Oper} {sl : List (Nat × HV)} {H : Heap} {all : Array Oper} {rest : List Oper} {K : AS → Prop}

theorem o_copy {d : Nat} {t xt e : TypeId} {a b : Nat} {z : Value} {aa : Array Operand} {ts : Array TypeId} {x y : Operand} {id ver k n off m k' : Nat} {e' : TypeId} {xs ds zs : List HV} {hy : HV} {Te : TyI} (h0 : (o.dst, o.op) = (some d, .call ⟨.builtin .copy, aa, ts⟩)) (has : aa.toList = [x, y]) (hts : ts.toList = [t, xt])
    (hT : ty P t = some ⟨.slice e, a, b, z⟩) (hTe : ty P e = some Te) (hx : s.ev x = some (.ar id ver k off n)) (hy' : s.ev y = some hy) (hst : isStr hy = false) (hg : hget s.heap id = some (ver, .arr k' e' xs)) (hfit : off + n * Te.size ≤ xs.length) (hs : asrc P s xt Te.size hy fun m' ds' => m' = m ∧ ds' = ds)
    (hz : xs.take off ++ ds.take (min m n * Te.size) ++ xs.drop (off + min m n * Te.size) = zs)
    (kk : bops P ro N all rest K ⟨(d, .int .i64 ((min m n : Nat) : Int)) :: s.slots, (id, ver, .arr k' e' zs) :: s.heap⟩) : aop P 0 [] o (fun s' => bops P ro N all rest K s') s := by
  obtain ⟨h1, h2⟩ := Prod.mk.inj h0
  simp only [aop, h2, has, hts, hT, hx, hy', hTe, hg]
  refine ⟨trivial, hst, hfit, asrc_mono hs fun m' ds' ⟨e1, e2⟩ => ?_⟩
  subst e1 e2
  rw [h1, hz]
  exact bops_le (putH_le id ver _ d _) kk

theorem v_sliceA {t e : TypeId} {sz by' : Nat} {z : Value} {x : Operand} {lo hi : Option Operand} {id ver k off n : Nat} {ob : AObj} {a b : Int} (hT : ty P t = some ⟨.slice e, sz, by', z⟩) (hE : elemSize P t = some k) (hx : s.ev x = some (.ar id ver k off n)) (ha : asl s lo 0 = some a) (hb : asl s hi n = some b) (h : 0 ≤ a ∧ a ≤ b ∧ b ≤ n ∧ (a = 0 ∨ a < n)) (hg : hget s.heap id = some (ver, ob)) :
    aval P (.slice t x lo hi none) s (· = .ar id ver k (off + a.toNat * k) (b.toNat - a.toNat)) := by
  simp only [aval, hT, hE, hx, ha, hb]
  exact ⟨trivial, h.1, h.2.1, h.2.2.1, h.2.2.2, by simp only [alive, hg], trivial⟩

theorem AnyAtZ.eqc {Q : Exit → AS → Prop} {q z : Nat} : Eqc (AnyAtZ P ro N ops Q q z) := fun _ _ he h w0 μ0 fuel listed μ1 a1 w1 s1 h1 h2 h3 h4 h5 h6 h7 h8 =>
  h w0 μ0 fuel listed μ1 a1 w1 s1 h1 h2 h3 (h4.trans he.1.symm) (fun t ht => (h5 t ht).trans (he.2 t).symm) (fun hl t => (h6 hl t).trans (he.2 t).symm) h7 h8
theorem y_stZ {q : Nat} (p z : Nat) (hok : ops.toList.all (fun o => okd N o.dst) = true) (hc : (daOk ops && Nat.ble q p && Nat.ble p ops.size && waitOkZ ops q p z && segOk ops q p) = true)
    (h : stops P ops.toList ((ops.toList.drop q).take (p - q)) (AnyAtZ P ro N ops (fun e s' => e = .normal ∧ K s') p z) s) : nyops P ro N ops K q s := by
  simp only [Bool.and_eq_true] at hc
  obtain ⟨⟨⟨⟨h1, h2⟩, h3⟩, h4⟩, h5⟩ := hc
  exact AnyAt.steadyZ p z _ hok h1 (Nat.le_of_ble_eq_true h2) (Nat.le_of_ble_eq_true h3) h4 h5 (fun _ h => h) (h.go AnyAtZ.eqc)

def lateOk (ops : Array Oper) (q z : Nat) : Bool := daOk ops && Nat.ble (q + 1) ops.size && Nat.ble (z + 1) q && waitOk ops q (q + 1) && ((List.range ops.size).all fun i => decide (i ≤ q) || (clos ops i).contains z) && ((List.range (q + 1)).all fun k => (k == z) || !((da ops k).contains z))

theorem y_late {q z dz dq : Nat} {oz oq : Oper} {x : Operand} {v vq : HV} {H' : Heap} (hc : lateOk ops q z = true) (hoz : ops[z]? = some oz) (hz : (oz.guard, oz.dst, mvOf oz.op) = (none, some dz, some x)) (hoq : ops[q]? = some oq) (hq : (oq.guard, oq.dst) = (none, some dq)) (hN : (okd N oz.dst && okd N oq.dst) = true)
    (hv : sget sl dz = some v) (hne : dz ≠ dq)
    (hx : ∀ sl' H2, (∀ u, u ≠ dz → sget sl' u = sget sl u) → (⟨sl', H2⟩ : AS).ev x = some v) (hx2 : ∀ sl' H2, (∀ u, u ≠ dz → sget sl' u = sget ((dq, vq) :: sl) u) → (⟨sl', H2⟩ : AS).ev x = some v)
    (hop : ∀ sl' : List (Nat × HV), (∀ u, u ≠ dz → sget sl' u = sget sl u) → ∀ K' : AS → Prop, K' ⟨(dq, vq) :: sl', H'⟩ → (∀ s s' : AS, s.heap = s'.heap → (∀ u, sget s.slots u = sget s'.slots u) → K' s' → K' s) → AOp P ro N oq K' ⟨sl', H⟩)
    (h : nyops P ro N ops K (q + 1) ⟨(dq, vq) :: sl, H'⟩) : AnyAtZ P ro N ops (fun e s' => e = .normal ∧ K s') q z ⟨sl, H⟩ := by
  simp only [lateOk, Bool.and_eq_true, List.all_eq_true, List.mem_range, Bool.or_eq_true, decide_eq_true_eq, List.contains_iff_mem, beq_iff_eq, Bool.not_eq_true'] at hc
  obtain ⟨⟨⟨⟨⟨h1, h2⟩, h3⟩, h4⟩, h5⟩, h6⟩ := hc
  obtain ⟨g1, g2⟩ := Prod.mk.inj hz
  obtain ⟨g2, g3⟩ := Prod.mk.inj g2
  obtain ⟨k1, k2⟩ := Prod.mk.inj hq
  simp only [Bool.and_eq_true] at hN
  have hdz : dstOf ops z = some dz := by simp [dstOf, hoz, g2]
  have hzo : ∀ (sl' : List (Nat × HV)) (H2 : Heap) (K' : AS → Prop), (⟨sl', H2⟩ : AS).ev x = some v → K' ((⟨sl', H2⟩ : AS).put (some dz) v) → AOpI P ro N ops z K' ⟨sl', H2⟩ := fun sl' H2 K' hx hK => by
    refine AOpI.plain hoz g1 ?_
    refine aop_sound (fid := 0) (mt := []) hN.1 ?_
    obtain ⟨m1, m2⟩ := mv_val g3 hx
    refine op_val m1 m2 ?_
    rw [g2]
    exact hK
  have hput : ∀ (sl' sl0 : List (Nat × HV)) (H2 : Heap), sget sl0 dz = some v → (∀ u, u ≠ dz → sget sl' u = sget sl0 u) → ∀ u, sget ((⟨sl', H2⟩ : AS).put (some dz) v).slots u = sget sl0 u := fun sl' sl0 H2 hv0 hl u => by
    simp only [AS.put, sget_sset]
    by_cases e : u = dz
    · rw [if_pos e, e, hv0]
    · rw [if_neg e, hl u e]
  refine AnyAtZ.op (t := ⟨(dq, vq) :: sl, H'⟩) h1 (Nat.le_of_ble_eq_true h2) (Nat.le_of_ble_eq_true h3) h4 (fun i hi his => (h5 i his).resolve_left (by omega)) (fun k hk hkz hm => by have h7 := (h6 k (by omega)).resolve_left hkz; rw [List.contains_eq_mem, decide_eq_false_iff_not] at h7; exact h7 hm) ?_ ?_ ?_ h
  · rintro ⟨sl', H2⟩ hh hl
    cases hh
    have hl' : ∀ u, u ≠ dz → sget sl' u = sget sl u := fun u hu => hl u (by rw [hdz]; intro e; cases e; exact hu rfl)
    exact hzo sl' H _ (hx sl' H hl') ⟨rfl, hput sl' sl H hv hl'⟩
  · rintro ⟨sl', H2⟩ hh hl
    cases hh
    have hl' : ∀ u, u ≠ dz → sget sl' u = sget ((dq, vq) :: sl) u := fun u hu => hl u (by rw [hdz]; intro e; cases e; exact hu rfl)
    refine hzo sl' H' _ (hx2 sl' H' hl') ⟨rfl, hput sl' _ H' ?_ hl'⟩
    simp only [sget]
    rw [if_neg hne]
    exact hv
  · rintro ⟨sl', H2⟩ hh hl
    cases hh
    have hl' : ∀ u, u ≠ dz → sget sl' u = sget sl u := fun u hu => hl u (by rw [hdz]; intro e; cases e; exact hu rfl)
    refine AOpI.plain hoq k1 (hop sl' hl' _ ⟨rfl, fun u hu => ?_, fun ha u => ?_⟩ ?_)
    · simp only [sget]
      split
      · rfl
      · exact hl u hu
    · simp only [sget]
      split
      · rfl
      · exact ha u
    · rintro s1 s2 e1 e2 ⟨f1, f2, f3⟩
      exact ⟨e1.trans f1, fun u hu => (e2 u).trans (f2 u hu), fun ha u => (e2 u).trans (f3 ha u)⟩
end
end Go.AW

namespace Go.Proofs
open Go
def Tryd.mul_ren : Go.Shelf.Ren := ⟨fun | 212 => 62 | 263 => 84 | 264 => 85 | n => n, fun | 46 => 85 | 51 => 97 | 146 => 123 | 53 => 95 | 148 => 125 | n => n, fun | n => n⟩
theorem Tryd.mul : Go.Proofs.Lays.n212 Tryd.prog Tryd.mul_ren where
  mixed := by kernel_rfl
  f212 := Tryd.func62.trans (congrArg some (by kernel_rfl))
  f263 := Tryd.func84.trans (congrArg some (by kernel_rfl))
  f264 := Tryd.func85.trans (congrArg some (by kernel_rfl))
  t46 := Tryd.underlying85
  a46 := Tryd.isAgg85
  z46 := Tryd.sizeOf85
  v46 := Tryd.zeroValue85
  t51 := Tryd.underlying97
  a51 := Tryd.isAgg97
  z51 := Tryd.sizeOf97
  v51 := Tryd.zeroValue97
  t53 := Tryd.underlying95
  a53 := Tryd.isAgg95
  z53 := Tryd.sizeOf95
  v53 := Tryd.zeroValue95
  t146 := Tryd.underlying123
  a146 := Tryd.isAgg123
  z146 := Tryd.sizeOf123
  v146 := Tryd.zeroValue123
  t148 := Tryd.underlying125
  a148 := Tryd.isAgg125
  z148 := Tryd.sizeOf125
  v148 := Tryd.zeroValue125
end Go.Proofs

/- math/bits.Mul by the kit's contract. -/
namespace Go.AW
open Go Go.Proofs

def u64 (n : Nat) : HV := .int .u64 n
theorem mul1 (n : Nat) (hn : n ≤ 1000000) : Fresh Tryd.prog 62 [u64 1, u64 n] (.tup [u64 0, u64 n]) := by
  refine Pure.fresh ⟨enters' Tryd.func62 rfl rfl, fun μ w vs hs hr => ?_⟩ ⟨trivial, trivial, trivial⟩ rfl
  obtain ⟨x, xs, rfl, ⟨rfl, _⟩, y, ys, rfl, ⟨rfl, _⟩, hn'⟩ := hr
  cases hn'
  refine (Any.bits_Mul Tryd.mul 1 n (by omega) (by omega) w).mono ?_
  rintro e w' ⟨rfl, rfl⟩
  have e1 : 1 * n / 18446744073709551616 = 0 := by omega
  have e2 : 1 * n % 18446744073709551616 = n := by omega
  refine ⟨_, .tup [u64 0, u64 n], [], μ, by rw [e1, e2], ⟨rfl, ⟨trivial, trivial, trivial⟩, rfl⟩, hs, ⟨_, rfl, _, _, rfl, ⟨rfl, by decide⟩, _, _, rfl, ⟨rfl, ?_⟩, rfl⟩, Evo.refl _ _⟩
  simp only [Lit.wf, IntKind.min, IntKind.max, IntKind.signed, IntKind.bits, Bool.and_eq_true, decide_eq_true_eq]
  simp
  omega

theorem mul1' (n : Nat) (hn : n ≤ 1000000) : Pure Tryd.prog 62 [HV.int .u64 (IntKind.wrap .u64 ((([true] : List Bool).length : Int))), HV.int .u64 (IntKind.wrap .u64 (n : Int))] (· = .tup [HV.int .u64 0, HV.int .u64 n]) := by
  have e : IntKind.wrap .u64 (n : Int) = (n : Int) := by simp only [IntKind.wrap_u64]; omega
  rw [e]
  exact (mul1 n hn).pure

end Go.AW

/- Maps with texts as keys, in lockstep. -/
namespace Go.AW
open Go
def entE {β : Type} (f : β → HV) (l : List (List UInt8 × β)) : List (List UInt8 × HV) := l.map fun x => (x.1, f x.2)
def mlook {β : Type} (k : List UInt8) : List (List UInt8 × β) → Option β
  | [] => none
  | (q, h) :: es => if k = q then some h else mlook k es
def mputN {β : Type} (k : List UInt8) (h : β) : List (List UInt8 × β) → List (List UInt8 × β)
  | [] => [(k, h)]
  | (q, x) :: es => if k = q then (q, h) :: es else (q, x) :: mputN k h es
theorem alook_ent {β : Type} (f : β → HV) (k : List UInt8) : ∀ l : List (List UInt8 × β), alook k (entE f l) = (mlook k l).map f
  | [] => rfl
  | (q, x) :: l => by
    show alook k ((q, f x) :: entE f l) = _
    simp only [alook, mlook]
    split
    · rfl
    · exact alook_ent f k l
theorem mput_ent {β : Type} (f : β → HV) (k : List UInt8) (v : β) : ∀ l : List (List UInt8 × β), mput k (f v) (entE f l) = entE f (mputN k v l)
  | [] => rfl
  | (q, x) :: l => by
    show mput k (f v) ((q, f x) :: entE f l) = _
    simp only [mput, mputN]
    split
    · rfl
    · rw [mput_ent f k v l]; rfl
section
variable {P : Program} {ro : Option Nat} {N : Nat} {s : AS} {o : Oper} {sl : List (Nat × HV)} {H : Heap} {all : Array Oper} {rest : List Oper} {K : AS → Prop} {fid : Nat} {β : Type}

theorem o_makeMap (f : β → HV) {d : Nat} {t : TypeId} (id : Nat) (h0 : (o.dst, o.op) = (some d, .makeMap t none)) (hid : fid * 1000 + d = id)
    (k : ∀ ver, bops P ro N all rest K ⟨(d, .mp id ver) :: sl, (id, ver, .map (entE f [])) :: H⟩) : aop P fid [] o (fun s' => bops P ro N all rest K s') ⟨sl, H⟩ := by
  obtain ⟨h1, h2⟩ := Prod.mk.inj h0
  simp only [aop, h2, h1]
  intro ver
  have e : cid fid (some d) = id := hid
  rw [e]
  exact bops_le (putH_le (s := ⟨sl, H⟩) id ver (.map (entE f [])) d (.mp id ver)) (k ver)

theorem o_mapSet (f : β → HV) {t kt et : TypeId} {a b : Nat} {z : Value} {m x y : Operand} {id ver : Nat} {k : List UInt8} {v : β} {es : List (List UInt8 × β)} {a2 b2 : Nat} {z2 : Value} (h0 : (o.dst, o.op) = (none, .mapUpdate t m x y) ∨ (o.dst, o.op) = (none, .insert t m x y)) (hT : ty P t = some ⟨.map kt et, a, b, z⟩) (hK : ty P kt = some ⟨.string, a2, b2, z2⟩)
    (hm : (⟨sl, H⟩ : AS).ev m = some (.mp id ver)) (hx : (⟨sl, H⟩ : AS).ev x = some (.str k)) (hy : (⟨sl, H⟩ : AS).ev y = some (f v)) (hg : hget H id = some (ver, .map (entE f es))) (hn : noIter id H)
    (kk : bops P ro N all rest K ⟨sl, (id, ver, .map (entE f (mputN k v es))) :: H⟩) : aop P 0 [] o (fun s' => bops P ro N all rest K s') ⟨sl, H⟩ := by
  rcases h0 with h0 | h0
  all_goals
    obtain ⟨h1, h2⟩ := Prod.mk.inj h0
    simp only [aop, h2, hT, hm, hx, hy, hK, hg, h1]
    refine ⟨trivial, hn, ?_⟩
    rw [mput_ent]
    exact bops_le (putN_le (s := ⟨sl, H⟩) id ver _ _) kk

theorem look_dflt {f : β → HV} {k : List UInt8} {v : β} {es : List (List UInt8 × β)} {zh : HV} (h : f v = zh) : ((mlook k es).map f).getD zh = f ((mlook k es).getD v) := by
  cases mlook k es with
  | none => exact h.symm
  | some x => rfl
end
end Go.AW

/- Lockstep walks: a call whose body is walked in its place, with what the caller owns. -/
namespace Go.AW
open Go
section
variable {P : Program} {ro : Option Nat} {N : Nat} {s : AS} {o : Oper} {sl : List (Nat × HV)} {H : Heap} {all : Array Oper} {rest l : List Oper} {K : AS → Prop} {Q : Exit → AS → Prop}

theorem bops_to (h : s.to (bops P ro N all l K)) : bops P ro N all l K s := fun hok i hi w0 μ0 μ a w Q hs hE hK => by
  obtain ⟨μ1, t, ht, hs1, E1⟩ := h ro N w0.heap.size μ a w hs
  exact ht hok i hi w0 μ0 μ1 a w Q hs1 (hE.trans E1) hK

theorem AW.fin {c : Code} (h : AW P ro N c (thenQ (fun s' => s'.to (Q .normal)) Q) s) : AW P ro N c Q s := by
  intro w0 μ0 μ a w hs hE
  refine wpIn_mono (h w0 μ0 μ a w hs hE) ?_
  rintro e a' w' ⟨h1, h2, μ', s', h3, h4, h5⟩
  cases e with
  | normal =>
    obtain ⟨μ2, t, ht, hs2, E2⟩ := h3 ro N w0.heap.size μ' a' w' h4
    exact ⟨h1, h2, μ2, t, ht, hs2, h5.trans E2⟩
  | exit id => exact ⟨h1, h2, μ', s', h3, h4, h5⟩
  | goto l => exact ⟨h1, h2, μ', s', h3, h4, h5⟩
  | ret => exact ⟨h1, h2, μ', s', h3, h4, h5⟩
  | panic ch => exact absurd rfl (h1 ch)
  | outgrown => exact absurd rfl h2

theorem o_callJ {S V R : Type} {M : S → Option R} {B : (S → Option R) → Option R} {r : R} {d : Nat} {aa : Array Operand} {ts : Array TypeId} {f : Operand} {g : FuncId} {fs hs cs args : List HV} (h : jp M B = some r) (St : S → V → AS) (h0 : (o.dst, o.op) = (some d, .call ⟨.value f, aa, ts⟩)) (hf : (⟨sl, H⟩ : AS).ev f = some (.fn (.func g) fs cs)) (ha : aa.toList.mapM (⟨sl, H⟩ : AS).ev = some hs) (hargs : fs ++ hs ++ cs = args)
    (k : ∀ a v, M a = some r → bops P ro N all rest K (St a v)) (b : ∀ M', B M' = some r → ACall P g args H fun q H' => (⟨(d, q) :: sl, H'⟩ : AS).to fun t => ∃ a v, M' a = some r ∧ t = St a v) : aop P 0 [] o (fun s' => bops P ro N all rest K s') ⟨sl, H⟩ := by
  obtain ⟨h1, h2⟩ := Prod.mk.inj h0
  refine op_call h2 hf ha hargs ((b M h).mono fun q H' hk => ?_)
  rw [h1]
  exact bops_le (put_le (s := ⟨sl, H'⟩) d q) (bops_to (to_mono hk fun t ⟨a, v, hm, e⟩ => by subst e; exact k a v hm))

theorem resAll_mono : ∀ {rvs : List ResultVar} {F G : List HV → Prop}, resAll P s rvs F → (∀ h, F h → G h) → resAll P s rvs G := by
  intro rvs
  induction rvs with
  | nil => intro F G h hg; exact hg _ h
  | cons rv rvs ih =>
    intro F G h hg
    have one : ∀ {R R' : HV → Prop}, resOne P s rv R → (∀ v, R v → R' v) → resOne P s rv R' := by
      intro R R' h hr
      unfold resOne at h ⊢
      split at h
      · split at h
        · exact hr _ h
        · exact h.elim
      · split at h
        · exact loadK_mono h hr
        · split at h
          · exact ⟨h.1, loadK_mono h.2 hr⟩
          · exact h.elim
        · exact h.elim
    exact one h fun v hv => ih hv fun hs => hg _

theorem ret_to {rvs : List ResultVar} {hs : List HV} {q : HV} {e : Exit} {K : HV → Heap → Prop} (he : e = .normal ∨ e = .ret) (hr : resAll P s rvs fun hs' => hs' = hs) (hj : joinR hs = q) (h : K q s.heap) : retQ P rvs K e s := by
  refine ⟨he, resAll_mono hr fun hs' e => ?_⟩
  subst e
  exact ⟨q, s.heap, by rw [hj]; exact Conv.refl _ _, h⟩
end
end Go.AW

/- Maps: looking up with an answer whether there is an entry; deleting while the map is ranged over. -/
namespace Go.AW
open Go Go.MapKept
section
variable {P : Program} {ro : Option Nat} {N : Nat} {s : AS} {w w' : World} {μ : Mu} {H : Heap}

theorem AOp.lookupOk {o : Oper} {K : AS → Prop} {t kt et : TypeId} {m x : Operand} {id ver : Nat} {k : List UInt8} {es : List (List UInt8 × HV)} {T Tk Te : TyI} {z : HV} (hop : o.op = .lookup t m x true) (hN : okd N o.dst = true)
    (hT : ty P t = some T) (hTd : T.desc = .map kt et) (hTk : ty P kt = some Tk) (hTkd : Tk.desc = .string) (hTe : ty P et = some Te) (hz : constHV Te.zero = some z)
    (hm : s.ev m = some (.mp id ver)) (hx : s.ev x = some (.str k)) (hg : hget s.heap id = some (ver, .map es))
    (h : K (s.put o.dst (.tup [(alook k es).getD z, .bool (alook k es).isSome]))) : AOp P ro N o K s := by
  refine AOp.value (fun c e => by rw [hop] at e; cases e) hN fun B μ a w hs => ?_
  obtain ⟨b, hl, he, ents, clock, hb, hkeys, hvals, hborn, hlt, hnd, hkl⟩ := hs.liveMap (hs.ev hm) hg
  obtain ⟨hxe, hxl⟩ := hs.ev hx
  have hkd : P.underlying kt = some .string := by rw [← hTkd]; exact (ty_spec hTk).1
  have htd : P.underlying t = some (.map kt et) := by rw [← hTd]; exact (ty_spec hT).1
  have hk : (a.eval x) = strV k := hxe
  have hchk := run_checkKey (P := P) (w := w) hkd (k := strV k) (by simp [strV, IsKey]) ents.isEmpty 9999
  have hzr : Rep w μ z Te.zero := constHV_rep hz
  rcases find_str (k := k) 0 hkeys hvals with ⟨h1, h2⟩ | ⟨j, e, h', h1, h2, h3, h4, h5, h6, h7, h8⟩
  · refine ⟨.tuple #[Te.zero, .bool false], .tup [z, .bool false], μ, w, s.heap, ?_, hs.sr, Evo.refl w μ, ⟨[Te.zero, .bool false], rfl, _, _, rfl, hzr, _, _, rfl, rfl, rfl⟩, by rw [h1] at h; exact h⟩
    simp [execOp, hop, hk, he, Instr.lookup, run_underlying htd, MapKept.run_getObj_map hb, hchk, run_findKey hkd h2, ty_zero hTe, Result.andThen]
  · refine ⟨.tuple #[e.val, .bool true], .tup [h', .bool true], μ, w, s.heap, ?_, hs.sr, Evo.refl w μ, ⟨[e.val, .bool true], rfl, _, _, rfl, h4, _, _, rfl, rfl, rfl⟩, by rw [h3] at h; exact h⟩
    simp [execOp, hop, hk, he, Instr.lookup, run_underlying htd, MapKept.run_getObj_map hb, hchk, run_findKey hkd h5, Result.andThen]

section
variable {o : Oper} {sl : List (Nat × HV)} {H : Heap} {all : Array Oper} {rest : List Oper} {K : AS → Prop} {β : Type}
theorem one_opX {G : AS → Prop} {s : AS} (hk : AOp P ro N o (fun s' => bops P ro N #[] [] G s') s) : AOp P ro N o G s := by
  intro w0 μ0 μ a w next Q hs hE hK
  refine hk w0 μ0 μ a w next Q hs hE fun μ' s' a' w' h' hs' hE' => ?_
  have hb := h' (by simp) 0 (fun k => by simp)
  have := hb w0 μ0 μ' a' w' (fun _ a w => next a w) hs' hE' (fun μ2 s2 a2 w2 hk2 hs2 hE2 => hK μ2 s2 a2 w2 hk2 hs2 hE2)
  simpa only [List.length_nil, List.range'_zero, wpOpsIn] using this
theorem y_opX {ops : Array Oper} {s : AS} {q : Nat} (hc : (daOk ops && Nat.ble (q + 1) ops.size && waitOk ops q (q + 1)) = true) (ho : ops[q]? = some o) (hg : o.guard = none) (hN : okd N o.dst = true)
    (h : okd N o.dst = true → AOp P ro N o (fun s' => bops P ro N #[] [] (nyops P ro N ops K (q + 1)) s') s) : nyops P ro N ops K q s := by
  simp only [Bool.and_eq_true] at hc
  obtain ⟨⟨h1, h2⟩, h3⟩ := hc
  exact AnyAt.op h1 (Nat.le_of_ble_eq_true h2) h3 (AOpI.plain ho hg (one_opX (h hN)))
theorem o_lookOk (hN : okd N o.dst = true) (f : β → HV) {d : Nat} {t kt et : TypeId} {a b : Nat} {z : Value} {m x : Operand} {id ver : Nat} {k : List UInt8} {v : β} {es : List (List UInt8 × β)} {a2 b2 : Nat} {z2 : Value} {Te : TyI} {zh : HV} (h0 : (o.dst, o.op) = (some d, .lookup t m x true)) (hT : ty P t = some ⟨.map kt et, a, b, z⟩) (hK : ty P kt = some ⟨.string, a2, b2, z2⟩) (hTe : ty P et = some Te) (hz : constHV Te.zero = some zh)
    (hm : (⟨sl, H⟩ : AS).ev m = some (.mp id ver)) (hx : (⟨sl, H⟩ : AS).ev x = some (.str k)) (hg : hget H id = some (ver, .map (entE f es))) (hl : ((mlook k es).map f).getD zh = f v)
    (kk : bops P ro N all rest K ⟨(d, .tup [f v, .bool (mlook k es).isSome]) :: sl, H⟩) : AOp P ro N o (fun s' => bops P ro N all rest K s') ⟨sl, H⟩ := by
  obtain ⟨h2, h3⟩ := Prod.mk.inj h0
  refine AOp.lookupOk h3 hN hT rfl hK rfl hTe hz hm hx hg ?_
  rw [h2, alook_ent, hl]
  have e : (Option.map f (mlook k es)).isSome = (mlook k es).isSome := by cases mlook k es <;> rfl
  rw [e]
  exact bops_le (put_le d _) kk

end

end
end Go.AW

/- Regions that draw their order, by the sets of the operations that are done. -/
namespace Go.AW
open Go
section
variable {P : Program} {ro : Option Nat} {N : Nat} {s : AS} {ops : Array Oper} {o : Oper} {K : AS → Prop} {G : AS → Prop} {F : List Nat → AS → Prop} {L : List Nat}

def AnyL (P : Program) (ro : Option Nat) (N : Nat) (ops : Array Oper) (K : AS → Prop) (L : List Nat) (s : AS) : Prop :=
  ∀ (w0 : World) (μ0 : Mu) (fuel : Nat) (listed : Array Bool) (μ1 : Mu) (a1 : Act) (w1 : World), listed.size = ops.size → cnt listed ≤ fuel → (∀ i, i < ops.size → listed.getD i false = L.contains i) →
    SRel ro N w0.heap.size μ1 s a1 w1 → Evo w0 μ0 w1 μ1 → wpAnyIn (fence ro) 0 P .any ops (Post ro N (fun e s' => e = .normal ∧ K s') w0 μ0) fuel listed a1 w1

def readyL (ops : Array Oper) (L : List Nat) : List Nat := (List.range ops.size).filter fun i => !L.contains i && (da ops i).all L.contains
def allR : List Nat → (Nat → Prop) → Prop
  | [], _ => True
  | i :: l, f => f i ∧ allR l f
theorem allR_mem {f : Nat → Prop} : ∀ {l : List Nat}, allR l f → ∀ i ∈ l, f i
  | [], _, _, h => by cases h
  | j :: l, h, i, hi => by
    rcases List.mem_cons.1 hi with rfl | hi
    · exact h.1
    · exact allR_mem h.2 i hi

theorem l_step (hF : F = AnyL P ro N ops K) (hda : daOk ops = true) (rs : List Nat) (hr : readyL ops L = rs) (hne : rs.isEmpty = false) (h : allR rs fun i => AOpI P ro N ops i (F (i :: L)) s) : F L s := by
  subst hF
  intro w0 μ0 fuel listed μ1 a1 w1 hl hc hlist hs hE
  have hda' := daOk_spec hda
  obtain ⟨q, hq⟩ : ∃ q, q ∈ rs := by
    cases rs with
    | nil => cases hne
    | cons q l => exact ⟨q, List.mem_cons_self ..⟩
  have hq' := hq
  rw [← hr] at hq'
  simp only [readyL, List.mem_filter, List.mem_range, Bool.and_eq_true, Bool.not_eq_true', List.all_eq_true] at hq'
  obtain ⟨hqs, hqL, hqd⟩ := hq'
  have hqn : listed.getD q false = false := by rw [hlist q hqs]; exact hqL
  cases fuel with
  | zero =>
    have := cnt_pos (listed := listed) (i := q) (by rw [getD_tf (by omega)]; exact hqn)
    omega
  | succ fuel =>
    refine ⟨fun hr0 => ?_, fun i hi => ?_⟩
    · exfalso
      have : q ∈ Region.ready .any ops listed := by
        refine mem_ready.2 ⟨by rw [getD_tf (by omega)]; exact hqn, ops[q], by simp [hqs], fun e he hb => ?_⟩
        have hk : e.on ∈ da ops q := by
          simp only [da, Array.getElem?_eq_getElem hqs, List.mem_map, List.mem_filter]
          exact ⟨e, ⟨by simpa using he, hb⟩, rfl⟩
        rw [hlist _ (Nat.lt_trans (hda' q hqs _ hk) hqs)]
        exact hqd _ hk
      rw [hr0] at this
      cases this
    · have hdone := deps_done hi
      obtain ⟨h0, o, ho, _⟩ := mem_ready.1 hi
      have his := (Array.getElem?_eq_some_iff.1 ho).1
      have h0' := h0
      rw [getD_tf (by omega), hlist i his] at h0'
      have hir : i ∈ rs := by
        rw [← hr]
        simp only [readyL, List.mem_filter, List.mem_range, Bool.and_eq_true, Bool.not_eq_true', List.all_eq_true]
        refine ⟨his, h0', fun k hk => ?_⟩
        rw [← hlist k (Nat.lt_trans (hda' i his k hk) his)]
        exact hdone k hk
      refine allR_mem h i hir w0 μ0 μ1 a1 w1 _ _ hs hE fun μ2 s2 a2 w2 hk hs2 hE2 => hk w0 μ0 fuel _ μ2 a2 w2 (by simp [hl]) ?_ (fun k hk => ?_) hs2 hE2
      · have := cnt_set (listed := listed) (i := i) h0
        omega
      · by_cases hki : i = k
        · subst hki
          have : i < listed.size := by omega
          simp [this]
        · rw [getD_set_ne false hki, hlist k hk]
          simp only [List.contains_cons]
          have : (k == i) = false := by simpa using fun e => hki e.symm
          rw [this, Bool.false_or]

theorem l_done (hF : F = AnyL P ro N ops K) (hda : daOk ops = true) (hall : (List.range ops.size).all L.contains = true) (h : K s) : F L s := by
  subst hF
  intro w0 μ0 fuel listed μ1 a1 w1 hl hc hlist hs hE
  have ha : AnyAt P ro N ops (fun e s' => e = .normal ∧ K s') ops.size s := AnyAt.done hda ⟨rfl, h⟩
  refine ha w0 μ0 fuel listed μ1 a1 w1 hl hc (fun i hi => ?_) hs hE
  rw [hlist i hi, decide_eq_true hi]
  exact List.all_eq_true.1 hall i (List.mem_range.2 hi)

theorem l_go {L' : List Nat} {s' : AS} (hF : F = AnyL P ro N ops K) (hsame : (List.range ops.size).all (fun i => L.contains i == L'.contains i) = true) (h : F L' s') (hle : s.le s') : F L s := by
  subst hF
  intro w0 μ0 fuel listed μ1 a1 w1 hl hc hlist hs hE
  refine h w0 μ0 fuel listed (μ1.cut s'.heap) a1 w1 hl hc (fun i hi => ?_) (hs.weaken hle) (hE.trans (Evo.cut w1 μ1 s'.heap))
  rw [hlist i hi]
  exact eq_of_beq (List.all_eq_true.1 hsame i (List.mem_range.2 hi))

theorem l_one {fid : Nat} {mt : List Nat} (hN : okd N o.dst = true) (h : aop P fid mt o (fun s' => bops P ro N #[] [] G s') s) : AOp P ro N o G s := by
  have hk : AOp P ro N o _ s := aop_sound hN h
  intro w0 μ0 μ a w next Q hs hE hK
  refine hk w0 μ0 μ a w next Q hs hE fun μ' s' a' w' h' hs' hE' => ?_
  have hb := h' (by simp) 0 (fun k => by simp)
  have := hb w0 μ0 μ' a' w' (fun _ a w => next a w) hs' hE' (fun μ2 s2 a2 w2 hk2 hs2 hE2 => hK μ2 s2 a2 w2 hk2 hs2 hE2)
  simpa only [List.length_nil, List.range'_zero, wpOpsIn] using this
theorem l_op {i : Nat} {fid : Nat} {mt : List Nat} (ho : ops[i]? = some o) (hg : o.guard = none) (hN : okd N o.dst = true) (h : aop P fid mt o (fun s' => bops P ro N #[] [] G s') s) : AOpI P ro N ops i G s := AOpI.plain ho hg (l_one hN h)
theorem AW.dl {id : Nat} {Q : Exit → AS → Prop} (hm : P.follows .mixedOrders = true) (h : ∀ K : AS → Prop, (∀ s', Q .normal s' → K s') → ∀ F : List Nat → AS → Prop, F = AnyL P ro N ops K → F [] s) : AW P ro N (.region id ops true) Q s := by
  refine AW.conseq (Q' := fun e s' => e = .normal ∧ Q .normal s') (AW.any hm ?_) fun e s1 ⟨he, h⟩ => he ▸ ⟨s1, AS.le_refl s1, h⟩
  intro w0 μ0 fuel listed μ1 a1 w1 hl hc hlist hs hE
  exact h (Q .normal) (fun _ h => h) _ rfl w0 μ0 fuel listed μ1 a1 w1 hl hc (fun i hi => by rw [hlist i hi]; simp) hs hE
theorem AW.dls {id : Nat} {y : Code} {Q : Exit → AS → Prop} (hm : P.follows .mixedOrders = true) (h : ∀ K : AS → Prop, (∀ s', AW P ro N y Q s' → K s') → ∀ F : List Nat → AS → Prop, F = AnyL P ro N ops K → F [] s) : AW P ro N (.seq (.region id ops true) y) Q s :=
  AW.seq (AW.dl hm h)
end
end Go.AW

/- Regions that draw their order: an operation that looks at no world may be taken first. -/
namespace Go.AW
open Go

def plainOp : Op → Bool
  | .move _ | .assign _ | .fieldAddr .. | .indexAddr .. => true
  | _ => false

section
variable {P : Program} {ro : Option Nat} {N B : Nat} {s : AS} {μ : Mu} {a : Act} {w : World}
theorem aval_free (hs : SRel ro N B μ s a w) (o : Oper) {R : HV → Prop} (hp : plainOp o.op = true) (h : aval P o.op s R) :
    ∃ v, ∀ w', (execOp a.eval o).run P w' = .ok (.value v) w' := by
  unfold aval at h
  split at h
  · rename_i x hop
    exact ⟨a.eval x, fun w' => by simp [execOp, hop]⟩
  · rename_i x hop
    exact ⟨a.eval x, fun w' => by simp [execOp, hop]⟩
  all_goals first
    | (rename_i hop; rw [hop] at hp; cases hp; done)
    | exact h.elim
    | skip
  · rename_i S x f hop
    split at h
    · rename_i o' T id ver off hf hx
      obtain ⟨fs, fd, hu, hfd, rfl, hT, h0⟩ := fieldOf_spec hf
      obtain ⟨hlive, h⟩ := h
      rcases hs.ev hx with ⟨b, hl, he⟩ | ⟨hd, ad, he⟩
      · exact ⟨.pointer (some ⟨b, off + fd.offset, none⟩), fun w' => by simp [execOp, hop, he, Instr.fieldAt, Instr.sureAddr, hu, hfd, fieldPlace, ty_sizeOf hT, h0, Addr.add_lit]⟩
      · exact absurd hd (hs.notDead hlive)
    · rename_i o' T cs off hf hx
      obtain ⟨fs, fd, hu, hfd, rfl, hT, h0⟩ := fieldOf_spec hf
      obtain ⟨h9, b, base, vs, he, ho, hsg, hl⟩ := hs.ev hx
      exact ⟨.pointer (some ⟨b, base + (off + fd.offset), none⟩), fun w' => by simp [execOp, hop, he, Instr.fieldAt, Instr.sureAddr, hu, hfd, fieldPlace, ty_sizeOf hT, h0, Addr.add_lit, Nat.add_assoc]⟩
    · exact h.elim
  · rename_i t x i hop
    split at h
    · rename_i e sz by' z k' k n cs ki j hT hk hx hi
      obtain ⟨rfl, h0, h1, h⟩ := h
      obtain ⟨hi', _⟩ := hs.ev hi
      obtain ⟨h9, hcl, _, ⟨hn0, _⟩ | ⟨b, off, cap, vs, he, hcap, ho, hsg, hl⟩⟩ := hs.ev hx
      · omega
      · have hu := ty_under hT
        have hz := fun w => elemSize_slice hT rfl hk w
        exact ⟨.pointer (some ⟨b, off + j.toNat * k, none⟩), fun w' => by simp [execOp, hop, he, hi', Instr.indexAt, asIntOf, hu, h0, h1, hz, Addr.add_lit]⟩
    · rename_i e sz by' z k' id ver k off n ki j hT hk hx hi
      obtain ⟨rfl, h0, h1, hlive, h⟩ := h
      obtain ⟨hi', _⟩ := hs.ev hi
      have hu := ty_under hT
      have hz := fun w => elemSize_slice hT rfl hk w
      rcases hs.ev hx with ⟨l, hl, ⟨_, _, hn, _⟩ | ⟨b, cap, cur, e', rfl, he, hnc, hcm, hrow, hsz⟩⟩ | ⟨hd, ad, m, c, he⟩
      · omega
      · exact ⟨.pointer (some ⟨b, off + j.toNat * k, none⟩), fun w' => by simp [execOp, hop, he, hi', Instr.indexAt, asIntOf, hu, h0, h1, hz, Addr.add_lit]⟩
      · exact absurd hd (hs.notDead hlive)
    · rename_i len e sz by' z k' id ver off ki j hT hk hx hi
      obtain ⟨h0, h1, hlive, h⟩ := h
      obtain ⟨hi', _⟩ := hs.ev hi
      have hu := ty_under hT
      have hz := fun w => elemSize_array hT rfl hk w
      rcases hs.ev hx with ⟨b, hl, he⟩ | ⟨hd, ad, he⟩
      · exact ⟨.pointer (some ⟨b, off + j.toNat * k', none⟩), fun w' => by simp [execOp, hop, he, hi', Instr.indexAt, Instr.sureAddr, asIntOf, hu, h0, h1, hz, Addr.add_lit]⟩
      · exact absurd hd (hs.notDead hlive)
    · rename_i len e sz by' z k' cs off ki j hT hk hx hi
      obtain ⟨h0, h1, h⟩ := h
      obtain ⟨hi', _⟩ := hs.ev hi
      have hu := ty_under hT
      have hz := fun w => elemSize_array hT rfl hk w
      obtain ⟨h9, b, base, vs, he, ho, hsg, hl⟩ := hs.ev hx
      exact ⟨.pointer (some ⟨b, base + (off + j.toNat * k'), none⟩), fun w' => by simp [execOp, hop, he, hi', Instr.indexAt, Instr.sureAddr, asIntOf, hu, h0, h1, hz, Addr.add_lit, Nat.add_assoc]⟩
    · exact h.elim
end

section
variable {P : Program} {N : Nat} {s : AS} {ops : Array Oper} {o : Oper} {K : AS → Prop} {F : List Nat → AS → Prop} {L : List Nat}
def freeL (ops : Array Oper) (L : List Nat) (i : Nat) : Bool := match ops[i]? with
  | some oi => (List.range ops.size).all fun j => j == i || L.contains j || (da ops j).contains i || match ops[j]? with
    | some oj => oi.apart ops oj
    | none => true
  | none => false
def noSel (ops : Array Oper) : Bool := ops.toList.all fun o => match o.op with | .select .. => false | _ => true
theorem noSel_spec (h : noSel ops = true) (j : Nat) (o : Oper) (cs : Array SelectCase) (b : Bool) (ho : ops[j]? = some o) : o.op ≠ .select cs b := by
  intro heq
  have hm : o ∈ ops.toList := List.mem_of_getElem? (i := j) (by rw [Array.getElem?_toList]; exact ho)
  have := List.all_eq_true.1 h o hm
  simp [heq] at this
def takeOk (N : Nat) (ops : Array Oper) (L : List Nat) (i : Nat) : Bool := match ops[i]? with
  | some o => o.guard.isNone && okd N o.dst && plainOp o.op && noSel ops && !L.contains i && (da ops i).all L.contains && freeL ops L i && daOk ops
  | none => false

theorem l_take {i d : Nat} {v : HV} {sl : List (Nat × HV)} {H : Heap} (hF : F = AnyL P none N ops K) (ho : ops[i]? = some o) (hc : takeOk N ops L i = true) (h0 : (o.dst, isVal o.op) = (some d, true)) (hv : aval P o.op ⟨sl, H⟩ (· = v)) (k : F (i :: L) ⟨(d, v) :: sl, H⟩) : F L ⟨sl, H⟩ := by
  subst hF
  intro w0 μ0 fuel listed μ1 a1 w1 hl hcn hlist hs hE
  unfold takeOk at hc
  rw [ho] at hc
  simp only [Bool.and_eq_true, Bool.not_eq_true', List.all_eq_true] at hc
  obtain ⟨⟨⟨⟨⟨⟨⟨hg, hN⟩, hp⟩, hsel⟩, hiL⟩, hready⟩, hfree⟩, hda⟩ := hc
  have hda' := daOk_spec hda
  have his : i < ops.size := (Array.getElem?_eq_some_iff.1 ho).1
  have hin : listed.getD i false = false := by rw [hlist i his]; exact hiL
  have hg' : o.guard = none := by
    cases h : o.guard with
    | none => rfl
    | some x => rw [h] at hg; cases hg
  cases fuel with
  | zero =>
    have := cnt_pos (listed := listed) (i := i) (by rw [getD_tf (by omega)]; exact hin)
    omega
  | succ fuel =>
    obtain ⟨u, hu⟩ := aval_free hs o hp hv
    have hop : AOp P none N o (AnyL P none N ops K (i :: L)) ⟨sl, H⟩ := l_one (fid := 0) (mt := []) hN (o_val h0 hv (b_nil k))
    have hwp := hop w0 μ0 μ1 a1 w1 (fun a w => wpAnyIn (fence none) 0 P .any ops (Post none N (fun e s' => e = .normal ∧ K s') w0 μ0) fuel (listed.setIfInBounds i true) a w) (fun _ _ _ => False) hs hE (fun μ2 s2 a2 w2 hk hs2 hE2 => hk w0 μ0 fuel _ μ2 a2 w2 (by simp [hl]) (by
      have := cnt_set (listed := listed) (i := i) (by rw [getD_tf (by omega)]; exact hin)
      omega) (fun k hk => by
      by_cases hki : i = k
      · subst hki
        have : i < listed.size := by omega
        simp [this]
      · rw [getD_set_ne false hki, hlist k hk]
        simp only [List.contains_cons]
        have : (k == i) = false := by simpa using fun e => hki e.symm
        rw [this, Bool.false_or]) hs2 hE2)
    have hnext := hwp.2
    rw [fence_round, Oper.semAt_none, hu w1] at hnext
    refine wpAnyIn_first (oi := o) (v := u) (fence_round none) ho (noSel_spec hsel) (fun c a w hq => absurd rfl (hq.1 c)) fuel listed a1 w1 (fun j oj hj hne hun hno => ?_) ?_ ⟨.inl ⟨?_, hu⟩, fun w => ?_⟩ hnext
    · unfold freeL at hfree
      rw [ho] at hfree
      have hjs := (Array.getElem?_eq_some_iff.1 hj).1
      have := List.all_eq_true.1 hfree j (List.mem_range.2 hjs)
      simp only [Bool.or_eq_true, beq_iff_eq, hj] at this
      rcases this with ((h | h) | h) | h
      · exact absurd h hne
      · have hx := hlist j hjs
        rw [getD_tf (by omega)] at hun
        rw [hun, h] at hx
        cases hx
      · exfalso
        have h : i ∈ da ops j := by simpa using h
        simp only [da, hj, List.mem_map, List.mem_filter] at h
        obtain ⟨e, ⟨he, hb⟩, hei⟩ := h
        exact hno e (by simpa using he) hb hei
      · exact h
    · refine mem_ready.2 ⟨by rw [getD_tf (by omega)]; exact hin, o, ho, fun e he hb => ?_⟩
      have hk : e.on ∈ da ops i := by
        simp only [da, ho, List.mem_map, List.mem_filter]
        exact ⟨e, ⟨by simpa using he, hb⟩, rfl⟩
      rw [hlist _ (Nat.lt_trans (hda' i his _ hk) his)]
      exact hready _ hk
    · unfold Region.wanted
      rw [hg']
    · unfold Oper.about
      cases hh : o.op <;> first | rfl | (rw [hh] at hp; cases hp)
end
end Go.AW

/- Regions that draw their order: more operations that may be taken first, for no world turns their value. -/
namespace Go.AW
open Go
section
variable {P : Program} {N B : Nat} {s : AS} {ops : Array Oper} {o : Oper} {K : AS → Prop} {F : List Nat → AS → Prop} {L : List Nat}
def lit : HV → Bool
  | .int _ _ | .bool _ | .str _ => true
  | _ => false
theorem lit_rep {w w' : World} {μ μ' : Mu} {h : HV} {v : Value} (hl : lit h = true) (hr : Rep w μ h v) : Rep w' μ' h v := by
  cases h <;> first | exact hr | cases hl
theorem lit_uni {w w' : World} {μ μ' : Mu} {h : HV} {v v' : Value} (hl : lit h = true) (hr : Rep w μ h v) (hr' : Rep w' μ' h v') : v = v' := by
  cases h <;> first | (cases hl; done) | (exact hr.1.trans hr'.1.symm) | (exact Eq.trans hr (Eq.symm hr'))
def Free (P : Program) (o : Oper) (s : AS) (v : HV) : Prop := aval P o.op s (· = v) ∧ (∀ c, o.op ≠ .call c) ∧
  ∀ (B N : Nat) (μ : Mu) (a : Act) (w : World), SRel none N B μ s a w → ∃ u, ∀ w', (execOp a.eval o).run P w' = .ok (.value u) w'
theorem f_bin {op : BinOp} {tx : TypeId} {x y : Operand} {u : TypeId} {h g r : HV} (hop : o.op = .binOp op tx x y u) (hx : s.ev x = some h) (hy : s.ev y = some g) (hb : abinT P op tx h g (· = r)) (hl : (lit h && lit g && lit r) = true) : Free P o s r := by
  simp only [Bool.and_eq_true] at hl
  obtain ⟨⟨l1, l2⟩, l3⟩ := hl
  refine ⟨by rw [hop]; exact v_bin hx hy hb, (fun c e => by rw [hop] at e; cases e), fun B N μ a w hs => ?_⟩
  obtain ⟨q, hv, _, he, hr⟩ := abinT_sound (P := P) (w := w) (tx := tx) (hs.ev hx) (hs.ev hy) hb
  refine ⟨q, fun w' => ?_⟩
  have hx' := lit_rep (w' := w') (μ' := μ) l1 (hs.ev hx)
  have hy' := lit_rep (w' := w') (μ' := μ) l2 (hs.ev hy)
  obtain ⟨q', hv', h1, he', hr'⟩ := abinT_sound (P := P) (tx := tx) hx' hy' hb
  subst he
  subst he'
  have := lit_uni l3 hr hr'
  subst this
  simp [execOp, hop, abinT_guard hx' hy' hb, h1]
def takeOkW (N : Nat) (ops : Array Oper) (L : List Nat) (i : Nat) : Bool := match ops[i]? with
  | some o => o.guard.isNone && okd N o.dst && noSel ops && !L.contains i && (da ops i).all L.contains && freeL ops L i && daOk ops
  | none => false
theorem l_takeW {i d : Nat} {v : HV} {sl : List (Nat × HV)} {H : Heap} (hF : F = AnyL P none N ops K) (ho : ops[i]? = some o) (hc : takeOkW N ops L i = true) (h0 : (o.dst, isVal o.op) = (some d, true)) (hv : Free P o ⟨sl, H⟩ v) (k : F (i :: L) ⟨(d, v) :: sl, H⟩) : F L ⟨sl, H⟩ := by
  subst hF
  obtain ⟨hv, hnc, hfr⟩ := hv
  intro w0 μ0 fuel listed μ1 a1 w1 hl hcn hlist hs hE
  unfold takeOkW at hc
  rw [ho] at hc
  simp only [Bool.and_eq_true, Bool.not_eq_true', List.all_eq_true] at hc
  obtain ⟨⟨⟨⟨⟨⟨hg, hN⟩, hsel⟩, hiL⟩, hready⟩, hfree⟩, hda⟩ := hc
  have hda' := daOk_spec hda
  have his : i < ops.size := (Array.getElem?_eq_some_iff.1 ho).1
  have hin : listed.getD i false = false := by rw [hlist i his]; exact hiL
  have hg' : o.guard = none := by
    cases h : o.guard with
    | none => rfl
    | some x => rw [h] at hg; cases hg
  cases fuel with
  | zero =>
    have := cnt_pos (listed := listed) (i := i) (by rw [getD_tf (by omega)]; exact hin)
    omega
  | succ fuel =>
    obtain ⟨u, hu⟩ := hfr _ _ _ _ _ hs
    have hop : AOp P none N o (AnyL P none N ops K (i :: L)) ⟨sl, H⟩ := l_one (fid := 0) (mt := []) hN (o_val h0 hv (b_nil k))
    have hwp := hop w0 μ0 μ1 a1 w1 (fun a w => wpAnyIn (fence none) 0 P .any ops (Post none N (fun e s' => e = .normal ∧ K s') w0 μ0) fuel (listed.setIfInBounds i true) a w) (fun _ _ _ => False) hs hE (fun μ2 s2 a2 w2 hk hs2 hE2 => hk w0 μ0 fuel _ μ2 a2 w2 (by simp [hl]) (by
      have := cnt_set (listed := listed) (i := i) (by rw [getD_tf (by omega)]; exact hin)
      omega) (fun k hk => by
      by_cases hki : i = k
      · subst hki
        have : i < listed.size := by omega
        simp [this]
      · rw [getD_set_ne false hki, hlist k hk]
        simp only [List.contains_cons]
        have : (k == i) = false := by simpa using fun e => hki e.symm
        rw [this, Bool.false_or]) hs2 hE2)
    have hnext := hwp.2
    rw [fence_round, Oper.semAt_none, hu w1] at hnext
    refine wpAnyIn_first (oi := o) (v := u) (fence_round none) ho (noSel_spec hsel) (fun c a w hq => absurd rfl (hq.1 c)) fuel listed a1 w1 (fun j oj hj hne hun hno => ?_) ?_ ⟨.inl ⟨?_, hu⟩, fun w => ?_⟩ hnext
    · unfold freeL at hfree
      rw [ho] at hfree
      have hjs := (Array.getElem?_eq_some_iff.1 hj).1
      have := List.all_eq_true.1 hfree j (List.mem_range.2 hjs)
      simp only [Bool.or_eq_true, beq_iff_eq, hj] at this
      rcases this with ((h | h) | h) | h
      · exact absurd h hne
      · have hx := hlist j hjs
        rw [getD_tf (by omega)] at hun
        rw [hun, h] at hx
        cases hx
      · exfalso
        have h : i ∈ da ops j := by simpa using h
        simp only [da, hj, List.mem_map, List.mem_filter] at h
        obtain ⟨e, ⟨he, hb⟩, hei⟩ := h
        exact hno e (by simpa using he) hb hei
      · exact h
    · refine mem_ready.2 ⟨by rw [getD_tf (by omega)]; exact hin, o, ho, fun e he hb => ?_⟩
      have hk : e.on ∈ da ops i := by
        simp only [da, ho, List.mem_map, List.mem_filter]
        exact ⟨e, ⟨by simpa using he, hb⟩, rfl⟩
      rw [hlist _ (Nat.lt_trans (hda' i his _ hk) his)]
      exact hready _ hk
    · unfold Region.wanted
      rw [hg']
    · unfold Oper.about
      split
      · rename_i c h; exact absurd h (hnc c)
      · rfl
end
end Go.AW

/- Regions that draw their order, by what holds when a set of their operations is done. -/
namespace Go.AW
open Go
section
variable {P : Program} {ro : Option Nat} {N : Nat} {s : AS} {ops : Array Oper} {K : AS → Prop} {F : List Nat → AS → Prop} {L : List Nat}
theorem AOpI.mono {i : Nat} {G G' : AS → Prop} (h : AOpI P ro N ops i G s) (hg : ∀ s', G s' → G' s') : AOpI P ro N ops i G' s := fun w0 μ0 μ a w next Q hs hE hK =>
  h w0 μ0 μ a w next Q hs hE fun μ2 s2 a2 w2 hk hs2 hE2 => hK μ2 s2 a2 w2 (hg s2 hk) hs2 hE2
end
end Go.AW

/- Lists of rows that are owned: an array of slices, each of an array of its own. -/
namespace Go.AW
open Go
def rid (i : Nat) : Nat := (1000000 + i) * 1000 + 30
theorem rid_inj {i j : Nat} (h : rid i = rid j) : i = j := by unfold rid at h; omega
theorem hget_hd {id v : Nat} {o : AObj} {H : Heap} : hget ((id, v, o) :: H) id = some (v, o) := by simp [hget]
theorem hget_tl {id j v : Nat} {o : AObj} {H : Heap} (h : id ≠ j) : hget ((j, v, o) :: H) id = hget H id := by simp [hget, h]
theorem le_shadow {id v v' : Nat} {o o' : AObj} {H : Heap} : ∀ j x, hget ((id, v, o) :: H) j = some x → hget ((id, v, o) :: (id, v', o') :: H) j = some x := fun j x h => by
  by_cases e : j = id
  · subst e; rw [hget_hd] at h ⊢; exact h
  · rw [hget_tl e] at h ⊢; rw [hget_tl e]; exact h
abbrev Rws := List (Nat × List Int)
def rowsO : Nat → Rws → Heap
  | _, [] => []
  | k, (v, l) :: t => (rid k, v, .arr 1 3 (eInt.E l)) :: rowsO (k + 1) t
def hdr : Nat → Rws → List HV
  | _, [] => []
  | k, (v, l) :: t => .ar (rid k) v 1 0 l.length :: hdr (k + 1) t
theorem hdr_len : ∀ (k : Nat) (rs : Rws), (hdr k rs).length = rs.length
  | _, [] => rfl
  | k, (v, l) :: t => by simp [hdr, hdr_len (k + 1) t]
theorem hdr_app : ∀ (k : Nat) (rs : Rws) (v : Nat) (l : List Int), hdr k (rs ++ [(v, l)]) = hdr k rs ++ [.ar (rid (k + rs.length)) v 1 0 l.length]
  | _, [], _, _ => rfl
  | k, (v, l) :: t, v', l' => by
    simp only [List.cons_append, hdr, hdr_app (k + 1) t v' l', List.length_cons]
    rw [show k + 1 + t.length = k + (t.length + 1) by omega]
theorem hdr_get : ∀ {rs : Rws} (k : Nat) {i v : Nat} {l : List Int}, rs[i]? = some (v, l) → (hdr k rs)[i]? = some (.ar (rid (k + i)) v 1 0 l.length)
  | [], _, i, _, _, h => by simp at h
  | (v, l) :: t, k, 0, _, _, h => by
    simp at h
    obtain ⟨rfl, rfl⟩ := h
    simp [hdr]
  | (v, l) :: t, k, i + 1, _, _, h => by
    simp only [List.getElem?_cons_succ] at h
    have := hdr_get (k + 1) h
    simp only [hdr, List.getElem?_cons_succ, this]
    rw [show k + 1 + i = k + (i + 1) by omega]
theorem hget_rows : ∀ {rs : Rws} (k : Nat) {i v : Nat} {l : List Int}, rs[i]? = some (v, l) → hget (rowsO k rs) (rid (k + i)) = some (v, .arr 1 3 (eInt.E l))
  | [], _, i, _, _, h => by simp at h
  | (v, l) :: t, k, 0, _, _, h => by
    simp at h
    obtain ⟨rfl, rfl⟩ := h
    exact hget_hd
  | (v, l) :: t, k, i + 1, _, _, h => by
    simp only [List.getElem?_cons_succ] at h
    have := hget_rows (k + 1) h
    show hget ((rid k, v, _) :: rowsO (k + 1) t) (rid (k + (i + 1))) = _
    rw [hget_tl (fun e => by have := rid_inj e; omega), ← this, show k + 1 + i = k + (i + 1) by omega]
theorem hget_rows_no : ∀ (rs : Rws) (k : Nat) {id : Nat}, (∀ i, i < rs.length → id ≠ rid (k + i)) → hget (rowsO k rs) id = none
  | [], _, _, _ => rfl
  | (v, l) :: t, k, id, h => by
    show hget ((rid k, v, _) :: rowsO (k + 1) t) id = none
    rw [hget_tl (show id ≠ rid k from h 0 (by simp))]
    exact hget_rows_no t (k + 1) fun i hi => by
      have := h (i + 1) (by simp; omega)
      rwa [show k + (i + 1) = k + 1 + i by omega] at this
theorem leH_rows {H : Heap} : ∀ (rs : Rws) (k : Nat), (∀ i v l, rs[i]? = some (v, l) → hget H (rid (k + i)) = some (v, .arr 1 3 (eInt.E l))) → leH H (rowsO k rs)
  | [], _, _ => trivial
  | (v, l) :: t, k, h => ⟨h 0 v l rfl, leH_rows t (k + 1) fun i v' l' hi => by
    have := h (i + 1) v' l' (by simpa using hi)
    rwa [show k + (i + 1) = k + 1 + i by omega] at this⟩
theorem rows_le {rs : Rws} {v : Nat} {l : List Int} {H : Heap} (hH : ∀ i, hget H (rid i) = none) : ∀ id x, hget (rowsO 0 (rs ++ [(v, l)])) id = some x → hget ((rid rs.length, v, .arr 1 3 (eInt.E l)) :: (H ++ rowsO 0 rs)) id = some x := by
  refine leH_get (leH_rows _ 0 fun i v' l' hi => ?_)
  have happ : ∀ (A B : Heap) (id : Nat), hget A id = none → hget (A ++ B) id = hget B id := by
    intro A B id
    induction A with
    | nil => intro _; rfl
    | cons a A ih =>
      obtain ⟨j, u, o⟩ := a
      intro h
      by_cases e : id = j
      · subst e; rw [hget_hd] at h; cases h
      · rw [hget_tl e] at h
        rw [List.cons_append, hget_tl e]
        exact ih h
  rw [Nat.zero_add]
  by_cases hlt : i < rs.length
  · rw [List.getElem?_append_left hlt] at hi
    rw [hget_tl (fun e => by have := rid_inj e; omega), happ _ _ _ (hH i)]
    have := hget_rows 0 hi
    rwa [Nat.zero_add] at this
  · have hi2 : i = rs.length := by
      have := (List.getElem?_eq_some_iff.1 hi).1
      simp at this
      omega
    subst hi2
    simp at hi
    obtain ⟨rfl, rfl⟩ := hi
    exact hget_hd
theorem rows_set {rs : Rws} {i v : Nat} {l l' : List Int} (h : rs[i]? = some (v, l)) (hl : l'.length = l.length) : hdr 0 (rs.set i (v, l')) = hdr 0 rs ∧ ∀ id x, hget (rowsO 0 (rs.set i (v, l'))) id = some x → hget ((rid i, v, .arr 1 3 (eInt.E l')) :: rowsO 0 rs) id = some x := by
  constructor
  · refine List.ext_getElem? fun j => ?_
    by_cases hj : j < rs.length
    · have hb : ∃ b, rs[j]? = some b := ⟨rs[j], List.getElem?_eq_getElem hj⟩
      obtain ⟨⟨w, m⟩, hm⟩ := hb
      rw [hdr_get 0 hm]
      by_cases e : i = j
      · subst e
        rw [h] at hm
        obtain ⟨rfl, rfl⟩ := Prod.mk.inj (Option.some.inj hm)
        rw [hdr_get 0 (show (rs.set i (v, l'))[i]? = some (v, l') by rw [List.getElem?_set_self hj]), hl]
      · rw [hdr_get 0 (show (rs.set i (v, l'))[j]? = some (w, m) by rw [List.getElem?_set_ne e]; exact hm)]
    · rw [List.getElem?_eq_none (by rw [hdr_len, List.length_set]; omega), List.getElem?_eq_none (by rw [hdr_len]; omega)]
  · refine leH_get (leH_rows _ 0 fun j w m hm => ?_)
    rw [Nat.zero_add]
    by_cases e : i = j
    · subst e
      have hi := (List.getElem?_eq_some_iff.1 h).1
      rw [List.getElem?_set_self hi] at hm
      cases hm
      exact hget_hd
    · rw [List.getElem?_set_ne e] at hm
      rw [hget_tl (fun x => e (rid_inj x).symm)]
      have := hget_rows 0 hm
      rwa [Nat.zero_add] at this
theorem frz_rows {D : Heap} : ∀ (rs : Rws) (k : Nat), (∀ i v l, rs[i]? = some (v, l) → hget D (rid (k + i)) = some (v, .arr 1 3 (eInt.E l))) → (hdr k rs).map (frz 2 D) = (rs.map (·.2)).map (slE eInt)
  | [], _, _ => rfl
  | (v, l) :: t, k, h => by
    simp only [hdr, List.map_cons]
    rw [frz_rows t (k + 1) fun i v' l' hi => by
      have := h (i + 1) v' l' (by simpa using hi)
      rwa [show k + (i + 1) = k + 1 + i by omega] at this]
    congr 1
    exact frz_slE eInt (h 0 v l rfl) fun _ _ => rfl
abbrev eHd : EncL HV := ⟨1, fun h => [h], fun l => l, fun l => by induction l with
  | nil => rfl
  | cons a l ih => exact congrArg (a :: ·) ih, fun _ => rfl⟩
end Go.AW

/- slices.Repeat of one number: the array is the caller's. -/
namespace Go.AW
open Go Go.Proofs
theorem repI_first (x : Int) (n : Nat) : ((List.replicate n (0 : Int)).map (HV.int .i64)).take 0 ++ ([HV.int .i64 x]).take (min 1 n * 1) ++ ((List.replicate n (0 : Int)).map (HV.int .i64)).drop (0 + min 1 n * 1) = (List.replicate (min 1 n) x ++ List.replicate (n - min 1 n) (0 : Int)).map (HV.int .i64) := by
  cases n with
  | zero => rfl
  | succ n =>
    have e : min 1 (n + 1) = 1 := by omega
    simp [e]
theorem repI_half {x : Int} {n m : Nat} {xs : List HV} (hx : xs = (List.replicate m x ++ List.replicate (n - m) (0 : Int)).map (HV.int .i64)) (h : m ≤ n) : xs.take (0 + m * 1) ++ ((xs.drop (0 + 0 * 1)).take ((m - 0) * 1)).take (min (m - 0) (n - m) * 1) ++ xs.drop (0 + m * 1 + min (m - 0) (n - m) * 1)
    = (List.replicate (m + min m (n - m)) x ++ List.replicate (n - (m + min m (n - m))) (0 : Int)).map (HV.int .i64) := by
  subst hx
  simp only [Nat.mul_one, Nat.zero_mul, Nat.zero_add, List.drop_zero, List.map_append, List.map_replicate, Nat.sub_zero]
  rw [List.take_left' (by simp), List.take_replicate, Nat.min_eq_left (Nat.min_le_left _ _), ← List.drop_drop, List.drop_left' (by simp), List.drop_replicate, List.replicate_append_replicate]
  congr 2
  omega

set_option maxRecDepth 100000 in
set_option maxHeartbeats 1000000 in
theorem repI_own (x : Int) {n : Nat} (hn : n ≤ 1000000) {H : Heap} {KK : HV → Heap → Prop} (i : Nat) (hKK : ∀ ver, KK (.ar (rid i) ver 1 0 (List.replicate n x).length) ((rid i, ver, .arr 1 3 (eInt.E (List.replicate n x))) :: H)) : ACall Tryd.prog 48 [slE eInt [x], HV.int .i64 (n : Int)] H KK := by
  refine ACall.of_body Tryd.func48 rfl rfl (Nat.le_of_ble_eq_true rfl) ?_
  unfold Tryd.f48
  dsimp only [enumS, Nat.reduceAdd]
  refine AW.rgs rfl fun K hK => ?_
  refine mv rfl rfl ?_
  refine b_nil (hK _ (AW.to (to_le (s' := ⟨[(0, slE eInt [x]), (1, HV.int .i64 (n : Int))], H⟩) ⟨leS_get ⟨rfl, rfl, trivial⟩, fun _ _ h => h⟩ ?_)))
  clear hK K
  refine AW.seq ?_
  refine AW.rgs rfl fun K hK => ?_
  refine mv rfl rfl ?_
  refine bv rfl (v_bin rfl rfl b_lss) ?_
  refine b_nil (hK _ (AW.to (to_le (s' := ⟨[(0, slE eInt [x]), (1, HV.int .i64 (n : Int)), (10, HV.bool (decide ((n : Int) < 0)))], H⟩) ⟨leS_get ⟨rfl, rfl, rfl, trivial⟩, fun _ _ h => h⟩ ?_)))
  clear hK K
  refine AW.cond rfl (fun hc => ?_) (fun hc => ?_)
  · have := of_decide_eq_true hc
    omega
  · clear hc
    refine AW.skip ?_
    refine AW.rgs rfl fun K hK => ?_
    refine mv rfl rfl ?_
    refine bv rfl (v_lenF rfl rfl ty30 rfl) ?_
    refine bv rfl (v_convI ty3 ty85 rfl) ?_
    refine mv rfl rfl ?_
    refine bv rfl (v_convI ty3 ty85 rfl) ?_
    refine b_op rfl (o_call rfl rfl rfl rfl (ACallD.pure0 (mul1' n hn)) ?_)
    refine mv rfl rfl ?_
    refine bv rfl (v_extract rfl rfl) ?_
    refine bv rfl (v_extract rfl rfl) ?_
    refine mv rfl rfl ?_
    refine mv rfl rfl ?_
    refine b_nil (hK _ (AW.to (to_le (s' := ⟨[(0, slE eInt [x]), (5, HV.int .u64 0), (6, HV.int .u64 (n : Int))], H⟩) ⟨leS_get ⟨rfl, rfl, rfl, trivial⟩, fun _ _ h => h⟩ ?_)))
    clear hK K
    refine AW.seq ?_
    refine AW.rgs rfl fun K hK => ?_
    refine mv rfl rfl ?_
    refine bv rfl (v_bin rfl rfl b_gtr) ?_
    refine mv rfl rfl ?_
    refine b_T rfl rfl rfl rfl (decide_eq_false (by decide)) (o_val rfl (mv_val rfl rfl).2 ?_)
    refine b_T rfl rfl rfl rfl rfl (o_val rfl (v_bin rfl rfl b_gtr) ?_)
    refine bv rfl (v_pickF rfl rfl rfl) ?_
    refine b_nil (hK _ (AW.to (to_le (s' := ⟨[(0, slE eInt [x]), (6, HV.int .u64 (n : Int)), (26, HV.bool (decide ((9223372036854775807 : Int) < (n : Int))))], H⟩) ⟨leS_get ⟨rfl, rfl, rfl, trivial⟩, fun _ _ h => h⟩ ?_)))
    clear hK K
    refine AW.cond rfl (fun hc => ?_) (fun hc => ?_)
    · have := of_decide_eq_true hc
      omega
    · clear hc
      refine AW.skip ?_
      refine AW.rgs rfl fun K hK => ?_
      refine mv rfl rfl ?_
      refine bv rfl (v_convI ty85 ty3 rfl) ?_
      rw [w64 (n := (n : Int)) (by omega) (by omega)]
      refine b_op rfl (o_makeE (fid := 1000000 + i) eInt (0 : Int) (rid i) rfl rfl ty30 rfl rfl ty3 rfl rfl (show 0 ≤ (n : Int) ∧ (n : Int) ≤ (n : Int) ∧ (n : Int) * ((8 : Nat) : Int) ≤ 281474976710656 by omega) (fun v6 => ?_))
      refine mv rfl rfl ?_
      refine b_nil (hK _ (AW.to (to_le (s' := ⟨[(0, slE eInt [x]), (7, HV.ar (rid i) v6 eInt.k 0 ((List.replicate (n : Int).toNat (0 : Int)).length))], (((rid i), v6, .arr eInt.k 3 (eInt.E (List.replicate (n : Int).toNat (0 : Int)))) :: H)⟩) ⟨leS_get ⟨rfl, rfl, trivial⟩, fun _ _ h => h⟩ ?_)))
      clear hK K
      simp only [Int.toNat_natCast, List.length_replicate]
      refine AW.rgs rfl fun K hK => ?_
      refine mv rfl rfl ?_
      refine mv rfl rfl ?_
      refine b_op rfl (o_copy (m := 1) (n := n) (off := 0) (ds := [HV.int .i64 x]) (zs := (List.replicate (min 1 n) x ++ List.replicate (n - min 1 n) (0 : Int)).map (HV.int .i64)) rfl rfl rfl ty30 ty3 rfl rfl rfl hget_hd ?_ ?_ ?_ ?_)
      · show 0 + n * 1 ≤ ((List.replicate n (0 : Int)).map (HV.int .i64)).length
        simp
      · simp only [asrc, ty30]
        trivial
      · exact repI_first x n
      refine mv rfl rfl ?_
      refine b_nil (hK _ (AW.to (to_le (s' := ⟨[(7, HV.ar (rid i) v6 1 0 n), (8, HV.int .i64 ((min 1 n : Nat) : Int))], (((rid i), v6, .arr 1 3 ((List.replicate (min 1 n) x ++ List.replicate (n - min 1 n) (0 : Int)).map (HV.int .i64))) :: H)⟩) ⟨leS_get ⟨rfl, rfl, trivial⟩, le_shadow⟩ ?_)))
      clear hK K
      refine AW.seq (AW.block ?_)
      refine AW.loopS (fun m : Nat => ⟨[(7, HV.ar (rid i) v6 1 0 n), (8, HV.int .i64 (m : Int))], (((rid i), v6, .arr 1 3 ((List.replicate m x ++ List.replicate (n - m) (0 : Int)).map (HV.int .i64))) :: H)⟩)
        (fun m => m ≤ n ∧ (m = 0 → n = 0)) (fun m => n - m) (min 1 n) (AS.le_refl _) ⟨by omega, by omega⟩ ?_
      rintro m ⟨hm, hm0⟩
      refine AW.seq ?_
      refine AW.rgs rfl fun K hK => ?_
      refine mv rfl rfl ?_
      refine mv rfl rfl ?_
      refine bv rfl (v_lenA rfl rfl ty30 rfl hget_hd) ?_
      refine bv rfl (v_bin rfl rfl b_lss) ?_
      refine b_nil (hK _ (AW.to (to_le (s' := ⟨[(7, HV.ar (rid i) v6 1 0 n), (8, HV.int .i64 (m : Int)), (37, HV.bool (decide ((m : Int) < (n : Int))))], (((rid i), v6, .arr 1 3 ((List.replicate m x ++ List.replicate (n - m) (0 : Int)).map (HV.int .i64))) :: H)⟩) ⟨leS_get ⟨rfl, rfl, rfl, trivial⟩, fun _ _ h => h⟩ ?_)))
      clear hK K
      refine AW.cond rfl (fun hc => ?_) (fun hc => ?_)
      · have hlt : m < n := by have := of_decide_eq_true hc; omega
        refine AW.skip ?_
        refine AW.block ?_
        refine AW.dy follows fun K hK => ?_
        have hcells : ((List.replicate m x ++ List.replicate (n - m) (0 : Int)).map (HV.int .i64)).length = n := by simp; omega
        refine y_stZ 7 0 rfl rfl ?_
        refine sm rfl rfl ?_
        refine sm rfl rfl ?_
        refine sm rfl rfl ?_
        refine sv rfl (hv := HV.ar (rid i) v6 1 (0 + m * 1) (n - m)) (v_sliceA (k := 1) (n := n) (a := (m : Int)) (b := (n : Int)) ty30 es30 rfl rfl rfl (by omega) hget_hd) ?_
        refine sm rfl rfl ?_
        refine sm rfl rfl ?_
        refine sv rfl (hv := HV.ar (rid i) v6 1 (0 + 0 * 1) (m - 0)) (v_sliceA (k := 1) (n := n) (a := (0 : Int)) (b := (m : Int)) ty30 es30 rfl rfl rfl (by omega) hget_hd) ?_
        refine s_nil ?_
        refine y_late (dz := 38) (dq := 45) (x := .tmp 8) (v := .int .i64 (m : Int)) (vq := .int .i64 ((min (m - 0) (n - m) : Nat) : Int)) (H' := (((rid i), v6, .arr 1 3 ((List.replicate (m + min m (n - m)) x ++ List.replicate (n - (m + min m (n - m))) (0 : Int)).map (HV.int .i64))) :: H)) rfl rfl rfl rfl rfl rfl rfl (by decide) (fun sl' H2 hl => ?_) (fun sl' H2 hl => ?_) (fun sl' hl K' hK' hc => ?_) ?_
        · show sget sl' 8 = _
          rw [hl 8 (by decide)]; rfl
        · show sget sl' 8 = _
          rw [hl 8 (by decide)]; rfl
        · have e41 : (⟨sl', (((rid i), v6, .arr 1 3 ((List.replicate m x ++ List.replicate (n - m) (0 : Int)).map (HV.int .i64))) :: H)⟩ : AS).ev (.tmp 41) = some (.ar (rid i) v6 1 (0 + m * 1) (n - m)) := by
            show sget sl' 41 = _
            rw [hl 41 (by decide)]; rfl
          have e44 : (⟨sl', (((rid i), v6, .arr 1 3 ((List.replicate m x ++ List.replicate (n - m) (0 : Int)).map (HV.int .i64))) :: H)⟩ : AS).ev (.tmp 44) = some (.ar (rid i) v6 1 (0 + 0 * 1) (m - 0)) := by
            show sget sl' 44 = _
            rw [hl 44 (by decide)]; rfl
          refine AOp.copy (t := 30) (xt := 30) (x := .tmp 41) (y := .tmp 44) (k := 1) (off := 0 + m * 1) (n := n - m) (m := m - 0) (ds := (((List.replicate m x ++ List.replicate (n - m) (0 : Int)).map (HV.int .i64)).drop (0 + 0 * 1)).take ((m - 0) * 1)) rfl rfl ty30 rfl ty3 e41 e44 (fun l e => by cases e) hget_hd ?_ ?_ ?_
          · simp only [asrc, ty30, hget_hd]
            refine ⟨trivial, trivial, ?_, trivial, ?_⟩
            · rw [hcells]
              show 0 + 0 * 1 + (m - 0) * 1 ≤ n
              omega
            · trivial
          · rw [hcells]
            show 0 + m * 1 + (n - m) * 1 ≤ n
            omega
          · refine hc _ _ ?_ (fun u => ?_) hK'
            · show hset _ _ _ _ = _
              rw [show ∀ ob : AObj, hset (((rid i), v6, .arr 1 3 ((List.replicate m x ++ List.replicate (n - m) (0 : Int)).map (HV.int .i64))) :: H) (rid i) v6 ob = (((rid i), v6, ob) :: H) from fun ob => by simp [hset]]
              have := repI_half (x := x) (n := n) (m := m) rfl hm
              exact congrArg (fun xs => (((rid i), v6, AObj.arr 1 3 xs) :: H)) this
            · show sget (AS.put _ (some 45) _).slots u = _
              simp only [AS.put, sget_sset, sget]
        · have hw : IntKind.wrap .i64 ((m : Int) + ((min (m - 0) (n - m) : Nat) : Int)) = ((m + min m (n - m) : Nat) : Int) := by
            rw [w64 (by omega) (by omega)]; omega
          refine y_op rfl rfl rfl rfl (o_val rfl (v_bin rfl rfl b_add) ?_)
          refine b_nil ?_
          refine y_op rfl rfl rfl rfl (o_val rfl (mv_val rfl rfl).2 ?_)
          refine b_nil ?_
          refine y_nil rfl (hK _ ?_)
          rw [hw]
          exact ⟨m + min m (n - m), ⟨by omega, by omega⟩, by omega, ⟨leS_get ⟨rfl, rfl, trivial⟩, fun _ _ h => h⟩⟩
      · have hge : m = n := by have := of_decide_eq_false hc; omega
        subst hge
        refine AW.exit ?_
        have e0 : List.replicate m x ++ List.replicate (m - m) (0 : Int) = List.replicate m x := by simp
        rw [e0]
        refine AW.rgs rfl fun K hK => ?_
        refine mv rfl rfl ?_
        refine mv rfl rfl ?_
        refine b_nil (hK _ (AW.to (to_le (s' := ⟨[(4, HV.ar (rid i) v6 eInt.k 0 ((List.replicate m x).length))], (((rid i), v6, .arr eInt.k 3 (eInt.E (List.replicate m x))) :: H)⟩) ⟨leS_get ⟨arl (by simp), trivial⟩, fun _ _ h => h⟩ ?_)))
        clear hK K
        exact AW.ret ⟨.inr rfl, resT rfl ⟨_, _, Conv.refl _ _, hKK v6⟩⟩
end Go.AW

namespace Go.AW
open Go
theorem hget_0 {id v : Nat} {o : AObj} {H : Heap} : hget ((id, v, o) :: H) id = some (v, o) := by simp [hget]
end Go.AW

/- The iterators of graphs: leaving. -/
namespace Go.AW
open Go Go.Proofs
set_option linter.unusedVariables false
theorem le_slH {l l' : List (Nat × HV)} {H : Heap} (h : leS l l') : (⟨l, H⟩ : AS).le ⟨l', H⟩ := ⟨leS_get h, fun _ _ h => h⟩
set_option maxRecDepth 100000 in
theorem iy_graph_leaving {g : TLabelsStatesEdges} {s : Int} {L : List (Int × TFromLabelTo)} (h : y_graph_leaving g s = some L) : Yields Tryd.prog 53 [] [HV.fptr [HV.int .i64 g.1, HV.int .i64 g.2.1, slE eFromLabelTo g.2.2] 0, HV.fptr [HV.int .i64 s] 0] (L.map fun x => [HV.int .i64 x.1, HV.agg [HV.int .i64 x.2.1, HV.int .i64 x.2.2.1, HV.int .i64 x.2.2.2]]) := by
  unfold y_graph_leaving at h
  split at h
  · rename_i hm
    cases h
    obtain ⟨gl, gs, es⟩ := g
    dsimp only at hm ⊢
    intro id ver H J Stop K hmn h0 hstep hdone hstop
    refine ACall.of_body Tryd.func53 rfl rfl (Nat.le_of_ble_eq_true rfl) ?_
    unfold Tryd.f53
    dsimp only [enumS, Nat.reduceAdd]
    refine AW.rgs rfl fun K1 hK => ?_
    refine bv rfl (v_fieldAddrF fo24_2 rfl) ?_
    refine bv rfl (v_loadF ty22 rfl (l_lit rfl rfl)) ?_
    refine bv rfl (v_lenF rfl rfl ty22 rfl) ?_
    refine mv rfl rfl ?_
    refine b_nil (hK _ (AW.to (to_le (s' := ⟨[(0, .yl id ver), (2, HV.fptr [HV.int .i64 s] 0), (7, slE eFromLabelTo es), (8, .int .i64 (es.length : Int)), (9, .int .i64 ((0 : Nat) : Int))], H⟩) (le_slH ⟨rfl, rfl, rfl, rfl, rfl, trivial⟩) ?_)))
    clear hK K1
    refine AW.block ?_
    refine AW.loopS (fun p : Nat × Heap => ⟨[(0, .yl id ver), (2, HV.fptr [HV.int .i64 s] 0), (7, slE eFromLabelTo es), (8, .int .i64 (es.length : Int)), (9, .int .i64 (p.1 : Int))], p.2⟩)
      (fun p => p.1 ≤ es.length ∧ J (leaveL (es.take p.1) s).length p.2) (fun p => es.length - p.1) (0, H) (AS.le_refl _) ⟨Nat.zero_le _, h0⟩ ?_
    rintro ⟨i, H1⟩ ⟨hi, hj⟩
    dsimp only at hi hj ⊢
    refine AW.rgs rfl fun K1 hK => ?_
    refine bv rfl (v_bin rfl rfl b_lss) ?_
    refine b_nil (hK _ ?_)
    clear hK K1
    refine AW.cseq rfl (fun hc => ?_) (fun hc => ?_)
    · have hi' : i < es.length := by have := of_decide_eq_true hc; omega
      have hx : idx es (i : Int) = some es[i] := ix hi'
      obtain ⟨f, hf⟩ := fresh_id H1 5
      refine AW.skip ?_
      refine AW.seq (AW.block ?_)
      refine AW.rgs rfl fun K1 hK => ?_
      refine mv rfl rfl ?_
      refine bv rfl (v_idxF ty22 es22 rfl rfl (idx_lt hx)) ?_
      refine bv rfl (v_loadF ty49 rfl (l_agg eFromLabelTo hx rfl rfl)) ?_
      refine b_op rfl (o_alloc (fid := f) (zs := [HV.int .i64 0, HV.int .i64 0, HV.int .i64 0]) (f * 1000 + 5) rfl rfl ty49 rfl (fun ov => ?_))
      refine mv rfl rfl ?_
      refine b_op rfl (o_store (cs := cFromLabelTo es[i]) (zs := cFromLabelTo es[i]) rfl rfl rfl ty49 rfl hget_0 rfl rfl rfl ?_)
      refine b_nil (hK _ (AW.to (to_le (s' := ⟨[(0, .yl id ver), (2, HV.fptr [HV.int .i64 s] 0), (4, .int .i64 (i : Int)), (5, .ptr (f * 1000 + 5) ov 0), (7, slE eFromLabelTo es), (8, .int .i64 (es.length : Int)), (9, .int .i64 (i : Int))], (f * 1000 + 5, ov, .arr 3 49 (cFromLabelTo es[i])) :: H1⟩) ⟨leS_get ⟨rfl, rfl, rfl, rfl, rfl, rfl, rfl, trivial⟩, fun j x hx => ?_⟩ ?_)))
      · simp only [hget] at hx ⊢
        split <;> rename_i hij
        · rw [if_pos hij] at hx; exact hx
        · first | exact hx | (rw [if_neg hij] at hx; first | exact hx | (rw [if_neg hij]; exact hx)) | (rw [if_neg hij]; exact hx)
      clear hK K1
      have hJ1 := hmn _ _ _ hj (cons_le (ver := ov) (ob := .arr 3 49 (cFromLabelTo es[i])) hf)
      refine AW.rgs rfl fun K1 hK => ?_
      refine bv rfl (v_fieldAddrP fo49_0 rfl hget_0) ?_
      refine bv rfl (v_loadP ty3 rfl hget_0 (l_lit rfl rfl)) ?_
      refine bv rfl (v_loadF ty3 rfl (l_lit rfl rfl)) ?_
      refine bv rfl (v_bin rfl rfl b_eql) ?_
      refine mv rfl rfl ?_
      have htk := leaveL_take es s hi'
      by_cases hs : es[i].1 = s
      · rw [if_pos hs] at htk
        obtain ⟨rest, hr⟩ := leaveL_split es s (i + 1)
        rw [htk] at hr
        refine b_T rfl rfl rfl rfl (decide_eq_true hs) (o_val rfl (mv_val rfl rfl).2 ?_)
        refine b_T rfl rfl rfl rfl rfl (o_val rfl (mv_val rfl rfl).2 ?_)
        refine b_T rfl rfl rfl rfl rfl (o_val rfl (v_loadP ty49 rfl hget_0 (l_litA (ds := cFromLabelTo es[i]) rfl (Nat.le_of_ble_eq_true rfl) rfl)) ?_)
        refine b_T rfl rfl rfl rfl rfl (o_yield (hs := [HV.int .i64 (i : Int), HV.agg (cFromLabelTo es[i])]) rfl rfl rfl ?_)
        refine (hstep (leaveL (es.take i) s).length [HV.int .i64 (i : Int), HV.agg (cFromLabelTo es[i])] _ ?_ hJ1).mono ?_
        · rw [List.getElem?_map, hr, List.append_assoc, List.getElem?_append_right (Nat.le_refl _), Nat.sub_self]
          rfl
        rintro r H2 ⟨b, rfl, h3, h4⟩
        refine b_T rfl rfl rfl rfl rfl (o_val rfl (v_not rfl) ?_)
        refine bv rfl (v_pickT rfl rfl rfl) ?_
        refine b_nil (hK _ (AW.to (to_le (s' := ⟨[(0, .yl id ver), (2, HV.fptr [HV.int .i64 s] 0), (7, slE eFromLabelTo es), (8, .int .i64 (es.length : Int)), (9, .int .i64 (i : Int)), (24, .bool (!b))], H2⟩) (le_slH ⟨rfl, rfl, rfl, rfl, rfl, rfl, trivial⟩) ?_)))
        clear hK K1
        refine AW.cond rfl (fun hc => ?_) (fun hc => ?_)
        · have hb : b = false := by simpa using hc
          refine AW.ret ⟨.inr rfl, ?_⟩
          simp only [go_sem, reduceIte, Nat.reduceEqDiff]
          exact ⟨_, _, Conv.refl _ _, hstop _ (h4 hb)⟩
        · have hb : b = true := by simpa using hc
          refine AW.skip ?_
          refine AW.region (fid := f) (mt := []) [0, 2, 7, 8, 9] rfl fun K hK => ?_
          simp only [go_sem, reduceIte, Nat.reduceEqDiff, Int.reduceLE]
          refine hK _ ?_
          clear hK K
          refine ⟨(i + 1, H2), ⟨by dsimp only; omega, ?_⟩, by dsimp only; omega, ?_⟩
          · dsimp only
            rw [htk, List.length_append]
            exact h3 hb
          · dsimp only
            rw [cnt_next hm hi']
            exact AS.le_refl _
      · rw [if_neg hs, List.append_nil] at htk
        refine b_F rfl rfl rfl rfl rfl (decide_eq_false hs) ?_
        refine b_F rfl rfl rfl rfl rfl rfl ?_
        refine b_F rfl rfl rfl rfl rfl rfl ?_
        refine b_F rfl rfl rfl rfl rfl rfl ?_
        refine b_F rfl rfl rfl rfl rfl rfl ?_
        refine bv rfl (v_pickF rfl rfl rfl) ?_
        refine b_nil (hK _ (AW.to (to_le (s' := ⟨[(0, .yl id ver), (2, HV.fptr [HV.int .i64 s] 0), (7, slE eFromLabelTo es), (8, .int .i64 (es.length : Int)), (9, .int .i64 (i : Int)), (24, .bool false)], _⟩) (le_slH ⟨rfl, rfl, rfl, rfl, rfl, rfl, trivial⟩) ?_)))
        clear hK K1
        refine AW.cond rfl (fun hc => by cases hc) (fun _ => ?_)
        refine AW.skip ?_
        refine AW.region (fid := f) (mt := []) [0, 2, 7, 8, 9] rfl fun K hK => ?_
        simp only [go_sem, reduceIte, Nat.reduceEqDiff, Int.reduceLE]
        refine hK _ ?_
        clear hK K
        refine ⟨(i + 1, (f * 1000 + 5, ov, .arr 3 49 (cFromLabelTo es[i])) :: H1), ⟨by dsimp only; omega, ?_⟩, by dsimp only; omega, ?_⟩
        · dsimp only
          rw [htk]
          exact hJ1
        · dsimp only
          rw [cnt_next hm hi']
          exact AS.le_refl _
    · have hi2 : es.length ≤ i := by have := of_decide_eq_false hc; omega
      have hie : i = es.length := by omega
      subst hie
      rw [List.take_length] at hj
      refine AW.exit ?_
      refine ⟨.inl rfl, ?_⟩
      simp only [go_sem, reduceIte, Nat.reduceEqDiff]
      exact ⟨_, _, Conv.refl _ _, hdone _ (by rw [List.length_map]; exact hj)⟩
  · cases h
end Go.AW



/- strings.Builder: the check for copies. -/
namespace Go.Proofs
open Go

theorem Tryd.bld_lies (n : Nat) (hn : 2 ≤ n) : liesAt Tryd.prog Tryd.prog.depth 116 (n / Tryd.prog.cellsOf 116) 0 116 1 = true := by
  have hc : Tryd.prog.cellsOf 116 = 2 := by kernel_rfl
  have hd : Tryd.prog.depth = (2 * (Tryd.prog.types.size + Made.depth) + 1) + 1 := rfl
  rw [hd]
  simp only [liesAt, Bool.or_eq_true]
  left
  rw [hd]
  have : 1 ≤ n / 2 := by omega
  simp [rowAt, hc, sameLayout, this]

set_option maxHeartbeats 1000000 in
set_option maxRecDepth 100000 in
theorem Tryd.copyCheck_fresh (b n : Nat) (w : World) (h0 : w.cell? ⟨b, 0, none⟩ = some (.pointer none)) (hsh : w.shape? b = some (116, n)) (hn : 2 ≤ n) (hfz : w.frozen? ⟨b, 0, none⟩ = false) :
    Calls Tryd.prog 92 #[.pointer (some ⟨b, 0, none⟩)] w fun e w' => e = .returned (.tuple #[]) ∧ w' = w.setCell ⟨b, 0, none⟩ (.pointer (some ⟨b, 0, none⟩)) := by
  obtain ⟨j, hj, hjs⟩ := Option.map_eq_some_iff.1 (show (Tryd.prog.info? 116).map (·.size) = some 2 by kernel_rfl)
  have hlies := Tryd.bld_lies n hn
  go_enter Tryd.func92, Tryd.ntmps92
  go_wp2
  rw [Lib.run_to_unsafe w ⟨b, 0, none⟩ Tryd.underlying114 Tryd.underlying139 hj (by rw [hjs]; decide) hsh (by show 0 < n; omega)]
  simp only [Result.andThen]
  rw [Oper.upon_value]
  go_wp2
  rw [run_callFunc_extern Tryd.func96 (by kernel_rfl) (by kernel_rfl) (by kernel_rfl) (e := Extern.AbiNoEscape.same) (by kernel_rfl), Lib.run_noEscape]
  simp only [Result.andThen]
  rw [Oper.upon_value]
  go_wp2
  rw [Lib.run_from_unsafe w ⟨b, 0, none⟩ Tryd.underlying139 Tryd.underlying114 hj hsh hlies]
  simp only [Result.andThen]
  rw [Oper.upon_value]
  go_wp2
  go_end0
  exact ⟨rfl, rfl⟩

set_option maxHeartbeats 1000000 in
set_option maxRecDepth 100000 in
theorem Tryd.copyCheck_used (b : Nat) (w : World) (h0 : w.cell? ⟨b, 0, none⟩ = some (.pointer (some ⟨b, 0, none⟩))) :
    Calls Tryd.prog 92 #[.pointer (some ⟨b, 0, none⟩)] w fun e w' => e = .returned (.tuple #[]) ∧ w' = w := by
  obtain ⟨j, hj, _⟩ := Option.map_eq_some_iff.1 (show (Tryd.prog.info? 116).map (·.size) = some 2 by kernel_rfl)
  go_enter Tryd.func92, Tryd.ntmps92
  go_wp2
  rw [Lib.run_neq_ptr_same w _ Tryd.underlying114 hj]
  go_wp2
  go_end0
  exact ⟨rfl, rfl⟩
end Go.Proofs

namespace Go.AW
open Go Go.Proofs Go.Lib

def bldP (u : Bool) (id ver : Nat) : HV := if u then .ptr id ver 0 else .v (.pointer none)

theorem c_copyCheck {H : Heap} {K : HV → Heap → Prop} {id ver : Nat} {u : Bool} {s : HV} (hg : hget H id = some (ver, .arr 2 116 [bldP u id ver, s])) (hK : K (.tup []) ((id, ver, .arr 2 116 [.ptr id ver 0, s]) :: H)) :
    ACall Tryd.prog 92 [.ptr id ver 0] H K := by
  refine ⟨enters' Tryd.func92 rfl rfl, fun μ w vs hs hr => ?_⟩
  obtain ⟨x, xs, rfl, hr, hn⟩ := hr
  cases hn
  obtain ⟨lo, hl, hor⟩ := hs.has _ _ _ hg
  have hle : ∀ ob j (y : Nat × AObj), hget ((id, ver, ob) :: H) j = some y ↔ hget (hset H id ver ob) j = some y := fun ob j y => by simp only [hget, hget_hset]
  rcases hr with ⟨b, hl', rfl⟩ | ⟨hd, _⟩
  · rw [hl] at hl'
    cases hl'
    obtain ⟨h1, cur, vs', rest, hrow, hcl, hrl⟩ := hor
    obtain ⟨v0, vs1, rfl, r0, v1, vs2, rfl, r1, hn⟩ := hrl
    cases hn
    have hrow2 := hrow
    obtain ⟨lo', hi', hbk, hfr⟩ := hrow2
    have hsz : 2 ≤ cur.size := by rw [← Array.length_toList, hcl]; simp
    have hc0 : cur[0]? = some v0 := by rw [← Array.getElem?_toList, hcl]; rfl
    have hcell : w.cell? ⟨b, 0, none⟩ = some v0 := by rw [Lib.cell_of_heap hbk]; exact hc0
    cases u with
    | false =>
      obtain rfl : v0 = .pointer none := r0
      refine (Tryd.copyCheck_fresh b cur.size w hcell (by simp [World.shape?, hbk]) hsz (hrow.free (by omega))).mono ?_
      rintro e w' ⟨rfl, rfl⟩
      have hbk' : (w.setCell ⟨b, 0, none⟩ (.pointer (some ⟨b, 0, none⟩))).heap[b]? = some (.cells (cur.setIfInBounds 0 (.pointer (some ⟨b, 0, none⟩))) 116 (lo', hi')) := by
        show (w.heap.modify b _)[b]? = _
        rw [Array.getElem?_modify, if_pos rfl, hbk]
        rfl
      obtain ⟨hsr, hE⟩ := hs.updArr (w' := w.setCell ⟨b, 0, none⟩ (.pointer (some ⟨b, 0, none⟩))) (cs' := [.ptr id ver 0, s]) hg hl ⟨rfl, rfl, rfl⟩ (by show (w.heap.modify b _).size = _; simp) (fun b' hne => by
        show (w.heap.modify b _)[b']? = _
        rw [Array.getElem?_modify, if_neg (fun e => hne e.symm)]) hrow ⟨lo', hi', hbk', by simpa using hfr⟩ (by simp) fun E => by
          refine ⟨fun c hc => ?_, _, [.pointer (some ⟨b, 0, none⟩), v1], rest, ⟨lo', hi', hbk', by simpa using hfr⟩, ?_, ?_⟩
          · rcases List.mem_cons.1 hc with rfl | hc
            · rfl
            · exact h1 c (List.mem_cons_of_mem _ hc)
          · rw [Array.toList_setIfInBounds, hcl]; rfl
          · exact ⟨_, _, rfl, .inl ⟨b, hl, rfl⟩, _, _, rfl, Rep.evo E hs.ok _ _ r1, rfl⟩
      exact ⟨_, .tup [], _, μ, rfl, hK, hsr.le (hle _), ⟨[], rfl, rfl⟩, hE⟩
    | true =>
      rcases r0 with ⟨b', hl2, rfl⟩ | ⟨hd, _⟩
      · rw [hl] at hl2
        cases hl2
        refine (Tryd.copyCheck_used b w hcell).mono ?_
        rintro e w' ⟨rfl, rfl⟩
        exact ⟨_, .tup [], _, μ, rfl, hK, (hs.same hg).le (hle _), ⟨[], rfl, rfl⟩, Evo.refl _ _⟩
      · exact absurd hl (hd.2 _)
  · exact absurd hl (hd.2 _)
end Go.AW

/- Bytes in owned arrays: append of a text. -/
namespace Go.AW
open Go
abbrev eByte : EncL UInt8 := encM fun b => HV.int .u8 (b.toNat : Int)
section
variable {P : Program} {ro : Option Nat} {N : Nat} {s : AS} {o : Oper} {sl : List (Nat × HV)} {H : Heap} {all : Array Oper} {rest : List Oper} {K : AS → Prop}
theorem o_appS {d : Nat} {t xt e : TypeId} {a b a2 b2 : Nat} {z z2 : Value} {aa : Array Operand} {ts : Array TypeId} {x y : Operand} {Te : TyI} {l m : List UInt8} {id ver : Nat} (h0 : (o.dst, o.op) = (some d, .call ⟨.builtin .append, aa, ts⟩)) (ha : (aa.toList, ts.toList) = ([x, y], [t, xt])) (hT : ty P t = some ⟨.slice e, a, b, z⟩) (hxt : ty P xt = some ⟨.string, a2, b2, z2⟩) (hTe : ty P e = some Te)
    (hx : s.ev x = some (.ar id ver eByte.k 0 l.length)) (hg : hget s.heap id = some (ver, .arr eByte.k e (eByte.E l))) (hy : s.ev y = some (.str m)) (hk : Te.size = 1) (hz : (zcells Te.zero).any (fun zs => zs.length == Te.size) = true) (h : fits Te.bytes (l.length + m.length))
    (k : ∀ ver', bops P ro N all rest K ⟨(d, .ar id ver' eByte.k 0 (l ++ m).length) :: s.slots, (id, ver', .arr eByte.k e (eByte.E (l ++ m))) :: s.heap⟩) : aop P 0 [] o (fun s' => bops P ro N all rest K s') s := by
  obtain ⟨h3, h4⟩ := Prod.mk.inj h0
  obtain ⟨h5, h6⟩ := Prod.mk.inj ha
  have ek : eByte.k = 1 := rfl
  refine op_append (n := l.length) (m := m.length) (cs := eByte.E l) (ds := eByte.E m) h4 h5 h6 hT hx hy hTe hz ?_ ?_ h ?_
  · simp only [abase, hg]
    refine ⟨trivial, hk.symm, trivial, trivial, ?_, trivial, ?_⟩
    · rw [hk, eByte.len]; exact Nat.le_refl _
    · rw [hk]
      show (eByte.E l).take (l.length * eByte.k) = _
      rw [eByte.take, List.take_length]
  · simp only [asrc, hxt]
    exact ⟨hk, trivial, rfl⟩
  · intro ver'
    have e1 : baseId (.ar id ver eByte.k 0 l.length) (cid 0 o.dst) = id := rfl
    have e2 : eByte.E l ++ eByte.E m = eByte.E (l ++ m) := (eByte.append l m).symm
    rw [e1, h3, hk, e2]
    have e3 : (l ++ m).length = l.length + m.length := List.length_append
    have := k ver'
    rw [e3] at this
    exact bops_le (putH_le id ver' _ d _) this
end
end Go.AW

/- strings.Builder: writing. -/
namespace Go.AW
open Go Go.Proofs

def bldO (id ver aid aver : Nat) (u : Bool) (l : List UInt8) : AObj := .arr 2 116 [bldP u id ver, .ar aid aver 1 0 l.length]
def bytO (l : List UInt8) : AObj := .arr 1 5 (eByte.E l)

theorem hget_1 {id v j w : Nat} {o p : AObj} {H : Heap} (h : j ≠ id) (hj : hget H j = some (w, p)) : hget ((id, v, o) :: H) j = some (w, p) := by
  simp only [hget]
  rw [if_neg (by omega)]
  exact hj

end Go.AW

/- strings.Builder: the text. -/
namespace Go.Proofs
open Go

def But (g : Nat) (w w' : World) : Prop := Go.AW.Same w w' ∧ w.heap.size ≤ w'.heap.size ∧ ∀ k, k < w.heap.size → k ≠ g → w'.heap[k]? = w.heap[k]?

set_option maxHeartbeats 2000000 in
set_option maxRecDepth 100000 in
theorem Tryd.bldS_nil (b g : Nat) (w : World) (c0 : w.cell? ⟨b, 1, none⟩ = some (.slice none 0 0)) :
    Calls Tryd.prog 81 #[.pointer (some ⟨b, 0, none⟩)] w fun e w' => e = .returned (.string ⟨#[]⟩) ∧ But g w w' := by
  have hUS : ∀ (W : World) (q : Option Addr), (Builtin.unsafeString_ #[134, 3] 9 #[.pointer q, .int .i64 0]).run Tryd.prog W = .ok (.string .empty) W := fun W q => Lib.run_unsafeString_none W _ _ _ q
  have c1 : w.drew.cell? ⟨b, 1, none⟩ = some (.slice none 0 0) := c0
  have hSD : (Builtin.unsafeSliceData_ #[25] 134 #[.slice none 0 0]).run Tryd.prog w.drew = .ok (.pointer none) w.drew := rfl
  have mixed : Tryd.prog.follows .mixedOrders = true := by kernel_rfl
  go_enter Tryd.func81, Tryd.ntmps81
  go_wp2
  go_region_o
  all_goals (go_wp2; go_ret; exact ⟨rfl, ⟨rfl, rfl, rfl⟩, Nat.le_refl _, fun _ _ _ => rfl⟩)

set_option maxHeartbeats 2000000 in
set_option maxRecDepth 100000 in
theorem Tryd.bldS_room (b g cap : Nat) (w : World) (hc0 : cap ≠ 0) (c0 : w.cell? ⟨b, 1, none⟩ = some (.slice (some ⟨g, 0, none⟩) 0 cap)) :
    Calls Tryd.prog 81 #[.pointer (some ⟨b, 0, none⟩)] w fun e w' => e = .returned (.string ⟨#[]⟩) ∧ But g w w' := by
  have hUS : ∀ (W : World) (q : Option Addr), (Builtin.unsafeString_ #[134, 3] 9 #[.pointer q, .int .i64 0]).run Tryd.prog W = .ok (.string .empty) W := fun W q => Lib.run_unsafeString_none W _ _ _ q
  have c1 : w.drew.cell? ⟨b, 1, none⟩ = some (.slice (some ⟨g, 0, none⟩) 0 cap) := c0
  have hSD : (Builtin.unsafeSliceData_ #[25] 134 #[.slice (some ⟨g, 0, none⟩) 0 cap]).run Tryd.prog w.drew = .ok (.pointer (some ⟨g, 0, none⟩)) w.drew := Lib.run_unsafeSliceData_row _ _ _ _ _ _ hc0
  clear hc0
  have mixed : Tryd.prog.follows .mixedOrders = true := by kernel_rfl
  go_enter Tryd.func81, Tryd.ntmps81
  go_wp2
  go_region_o
  all_goals (go_wp2; go_ret; exact ⟨rfl, ⟨rfl, rfl, rfl⟩, Nat.le_refl _, fun _ _ _ => rfl⟩)

set_option maxHeartbeats 2000000 in
set_option maxRecDepth 100000 in
theorem Tryd.bldS_noroom (b g : Nat) (cur : Array Value) (fr : Nat × Nat) (w : World) (hlt : b < w.heap.size) (c0 : w.cell? ⟨b, 1, none⟩ = some (.slice (some ⟨g, 0, none⟩) 0 0)) (hg : w.heap[g]? = some (.cells cur 5 fr)) :
    Calls Tryd.prog 81 #[.pointer (some ⟨b, 0, none⟩)] w fun e w' => e = .returned (.string ⟨#[]⟩) ∧ But g w w' := by
  have hUS : ∀ (W : World) (q : Option Addr), (Builtin.unsafeString_ #[134, 3] 9 #[.pointer q, .int .i64 0]).run Tryd.prog W = .ok (.string .empty) W := fun W q => Lib.run_unsafeString_none W _ _ _ q
  have c1 : w.drew.cell? ⟨b, 1, none⟩ = some (.slice (some ⟨g, 0, none⟩) 0 0) := c0
  have hSD : (Builtin.unsafeSliceData_ #[25] 134 #[.slice (some ⟨g, 0, none⟩) 0 0]).run Tryd.prog w.drew = .ok (.pointer (some ⟨w.drew.heap.size, 0, none⟩)) (w.drew.alloc (.view ⟨g, 0, none⟩ 5)) :=
    Lib.run_unsafeSliceData_zero w.drew _ _ 5 Tryd.underlying134 ⟨g, 0, none⟩ 0 (5, cur.size) (by have hg' : w.drew.heap[g]? = some (.cells cur 5 fr) := hg; simp [World.shape?, hg'])
  have c2 : (w.drew.alloc (.view ⟨g, 0, none⟩ 5)).cell? ⟨b, 1, none⟩ = some (.slice (some ⟨g, 0, none⟩) 0 0) := by
    have e : (w.drew.alloc (.view ⟨g, 0, none⟩ 5)).heap[b]? = w.heap[b]? := Lib.alloc_old w.drew _ b hlt
    have h1 : (w.drew.alloc (.view ⟨g, 0, none⟩ 5)).cell? ⟨b, 1, none⟩ = w.cell? ⟨b, 1, none⟩ := by simp only [World.cell?, e]
    rw [h1]; exact c0
  have c3 : (w.alloc (.view ⟨g, 0, none⟩ 5)).drew.cell? ⟨b, 1, none⟩ = some (.slice (some ⟨g, 0, none⟩) 0 0) := c2
  have mixed : Tryd.prog.follows .mixedOrders = true := by kernel_rfl
  go_enter Tryd.func81, Tryd.ntmps81
  go_wp2
  go_region_o
  all_goals (go_wp2; go_ret; exact ⟨rfl, ⟨rfl, rfl, rfl⟩, by show w.heap.size ≤ (w.heap.push _).size; rw [Array.size_push]; omega, fun k hk _ => Lib.alloc_old w.drew _ k hk⟩)

set_option maxHeartbeats 2000000 in
set_option maxRecDepth 100000 in
theorem Tryd.bldS_some (b g cap : Nat) (cur : Array Value) (fr : Nat × Nat) (l : List UInt8) (w : World) (h0 : l ≠ []) (c0 : w.cell? ⟨b, 1, none⟩ = some (.slice (some ⟨g, 0, none⟩) l.length cap)) (hg : w.heap[g]? = some (.cells cur 5 fr)) (hcap : l.length ≤ cap) (hsz : cur.size = cap) (hcm : cap ≤ maxLen)
    (hcell : ∀ (j : Nat) (x : UInt8), l[j]? = some x → cur[j]? = some (.int .u8 x.toNat)) :
    Calls Tryd.prog 81 #[.pointer (some ⟨b, 0, none⟩)] w fun e w' => e = .returned (.string ⟨l.toArray⟩) ∧ But g w w' := by
  have hl0 : l.length ≠ 0 := by simpa using h0
  have c1 : w.drew.cell? ⟨b, 1, none⟩ = some (.slice (some ⟨g, 0, none⟩) l.length cap) := c0
  have hSD : (Builtin.unsafeSliceData_ #[25] 134 #[.slice (some ⟨g, 0, none⟩) l.length cap]).run Tryd.prog w.drew = .ok (.pointer (some ⟨g, 0, none⟩)) w.drew := Lib.run_unsafeSliceData_row _ _ _ _ _ _ (by omega)
  have hUS : (Builtin.unsafeString_ #[134, 3] 9 #[.pointer (some ⟨g, 0, none⟩), .int .i64 l.length]).run Tryd.prog w.drew = .ok (.string ⟨l.toArray⟩) (w.drew.freeze ⟨g, 0, none⟩ l.length) := by
    refine Lib.run_unsafeString_row w.drew 134 3 9 5 Tryd.underlying134 (by kernel_rfl) g cur.size (by have hg' : w.drew.heap[g]? = some (.cells cur 5 fr) := hg; simp [World.shape?, hg']) l h0 (by omega) (by unfold maxLen at hcm; omega) ?_
    intro j x hx
    have hg' : w.drew.heap[g]? = some (.cells cur 5 fr) := hg
    rw [Addr.add_lit, Nat.zero_add, Lib.cell_of_heap hg']
    exact hcell j x hx
  have hfz : But g w (w.drew.freeze ⟨g, 0, none⟩ l.length) := by
    unfold World.freeze
    rw [if_neg hl0]
    refine ⟨⟨rfl, rfl, rfl⟩, by show w.heap.size ≤ (w.heap.modify g _).size; simp, fun k hk hne => ?_⟩
    show (w.heap.modify g _)[k]? = _
    rw [Array.getElem?_modify, if_neg (fun e => hne e.symm)]
  clear hcell hsz hcap hcm h0 hl0 hg
  have mixed : Tryd.prog.follows .mixedOrders = true := by kernel_rfl
  go_enter Tryd.func81, Tryd.ntmps81
  go_wp2
  go_region_o
  all_goals (go_wp2; go_ret; exact ⟨rfl, hfz⟩)
end Go.Proofs

/- strings.Builder: the text, and the writing of texts, as contracts. -/
namespace Go.AW
open Go Go.Proofs Go.Lib

theorem repL_byt {w : World} {μ : Mu} : ∀ {l : List UInt8} {vs : List Value}, RepL w μ (l.map fun b => HV.int .u8 (b.toNat : Int)) vs → vs = l.map fun b => Value.int .u8 (b.toNat : Int)
  | [], vs, h => h
  | x :: l, vs, h => by
    obtain ⟨v, vs', rfl, hx, hr⟩ := h
    obtain ⟨rfl, _⟩ := hx
    rw [repL_byt hr]
    rfl

theorem c_String {H : Heap} {K : HV → Heap → Prop} {id ver aid aver : Nat} {u : Bool} {l : List UInt8} (hg : hget H id = some (ver, bldO id ver aid aver u l)) (ha : hget H aid = some (aver, bytO l)) (hK : ∀ av, K (.str l) ((aid, av, .arr 1 5 []) :: H)) :
    ACall Tryd.prog 81 [.ptr id ver 0] H K := by
  refine ⟨enters' Tryd.func81 rfl rfl, fun μ w vs hs hr => ?_⟩
  obtain ⟨x, xs, rfl, hr, hn⟩ := hr
  cases hn
  obtain ⟨lo, hl, hor⟩ := hs.has _ _ _ hg
  obtain ⟨la, hla, hora⟩ := hs.has _ _ _ ha
  have hle : ∀ v ob j (y : Nat × AObj), hget ((aid, v, ob) :: H) j = some y ↔ hget (hset H aid v ob) j = some y := fun v ob j y => by simp only [hget, hget_hset]
  have fin : ∀ (g : Nat) (w' : World), (∀ b, μ.loc aid = some (aver, some b) → b = g) → (la = none → w.heap.size ≤ g) → l.length ≤ maxLen → But g w w' → ∃ v r H' μ', Ending.returned (.string ⟨l.toArray⟩) = .returned v ∧ K r H' ∧ SR w' μ' H' ∧ Rep w' μ' r v ∧ Evo w μ w' μ' := by
    intro g w' hb hgn hlen ⟨h1, h2, h3⟩
    have hold : ∀ b, b < w.heap.size → (∀ ver, μ.loc aid ≠ some (ver, some b)) → w'.heap[b]? = w.heap[b]? := fun b hb1 hb2 => by
      by_cases e : b = g
      · cases la with
        | none => exact absurd (hgn rfl) (by omega)
        | some b0 =>
          have := hb b0 hla
          subst this
          subst e
          exact absurd hla (hb2 _)
      · exact h3 b hb1 e
    have hsr := hs.repl aid none (.arr 1 5 []) h1 h2 hold (fun b hb => by cases hb) rfl
    have hE := Evo.repl hs aid none h1 h2 hold (fun b hb => by cases hb)
    exact ⟨_, .str l, _, μ.set aid none, rfl, hK μ.nx, hsr.le (hle _ _), ⟨rfl, hlen⟩, hE⟩
  rcases hr with ⟨b, hl', rfl⟩ | ⟨hd, _⟩
  · rw [hl] at hl'
    cases hl'
    obtain ⟨h1, cur, vs', rest, hrow, hcl, hrl⟩ := hor
    obtain ⟨v0, vs1, rfl, r0, v1, vs2, rfl, r1, hn⟩ := hrl
    cases hn
    have hrow2 := hrow
    obtain ⟨lo', hi', hbk, hfr⟩ := hrow2
    have hc1 : cur[1]? = some v1 := by rw [← Array.getElem?_toList, hcl]; rfl
    have hcell : w.cell? ⟨b, 1, none⟩ = some v1 := by rw [Lib.cell_of_heap hbk]; exact hc1
    have hlt : b < w.heap.size := by
      rcases Nat.lt_or_ge b w.heap.size with h' | h'
      · exact h'
      · simp [Array.getElem?_eq_none h'] at hbk
    rcases r1 with ⟨la', hla', ⟨rfl, rfl, h0, _⟩ | ⟨g, cap, curg, e, rfl, rfl, hnc, hcm, hrowg, hszg⟩⟩ | ⟨hd, _⟩
    · have hln := List.eq_nil_of_length_eq_zero h0
      subst hln
      refine (Tryd.bldS_nil b w.heap.size w hcell).mono ?_
      rintro e w' ⟨rfl, hb⟩
      exact fin _ w' (fun b hb => by rw [hla'] at hb; cases hb) (fun _ => Nat.le_refl _) (Nat.zero_le _) hb
    · rw [hla] at hla'
      cases hla'
      obtain ⟨_, cur2, vs2, rest2, hrow2, hcl2, hrl2⟩ := hora
      obtain ⟨lo2, hi2, hbg, hfr2⟩ := hrow2
      obtain ⟨lo3, hi3, hbg3, hfr3⟩ := hrowg
      rw [hbg] at hbg3
      cases hbg3
      have hvs := repL_byt hrl2
      subst hvs
      have hb1 : ∀ b, μ.loc aid = some (aver, some b) → b = g := fun b hb => by rw [hla] at hb; cases hb; rfl
      by_cases h0 : l = []
      · subst h0
        by_cases hc0 : cap = 0
        · subst hc0
          refine (Tryd.bldS_noroom b g curg _ w hlt hcell hbg).mono ?_
          rintro e w' ⟨rfl, hb⟩
          exact fin g w' hb1 (fun e => by cases e) (Nat.zero_le _) hb
        · refine (Tryd.bldS_room b g cap w hc0 hcell).mono ?_
          rintro e w' ⟨rfl, hb⟩
          exact fin g w' hb1 (fun e => by cases e) (Nat.zero_le _) hb
      · refine (Tryd.bldS_some b g cap curg _ l w h0 hcell hbg hnc (by omega) hcm fun j x hj => ?_).mono ?_
        · rw [← Array.getElem?_toList, hcl2, List.getElem?_append_left (by
            have := (List.getElem?_eq_some_iff.1 hj).1
            simpa using this), List.getElem?_map, hj]
          rfl
        · rintro e w' ⟨rfl, hb⟩
          exact fin g w' hb1 (fun e => by cases e) (by omega) hb
    · exact absurd hla (hd.2 _)
  · exact absurd hl (hd.2 _)
end Go.AW

/- strings.Builder: WriteString. -/
namespace Go.AW
open Go Go.Proofs
set_option linter.unusedVariables false


set_option maxRecDepth 100000 in
theorem c_WriteString {H : Heap} {K : HV → Heap → Prop} {id ver aid aver : Nat} {u : Bool} {l m : List UInt8} (hid : aid ≠ id) (hg : hget H id = some (ver, bldO id ver aid aver u l)) (ha : hget H aid = some (aver, bytO l)) (hfit : fits 1 (l.length + m.length))
    (hK : ∀ av, K (.tup [.int .i64 (m.length : Int), .v .nilIface]) ((id, ver, bldO id ver aid av true (l ++ m)) :: (aid, av, bytO (l ++ m)) :: H)) : ACall Tryd.prog 79 [.ptr id ver 0, .str m] H K := by
  refine ACall.of_body Tryd.func79 rfl rfl (Nat.le_of_ble_eq_true rfl) ?_
  unfold Tryd.f79
  dsimp only [enumS, Nat.reduceAdd]
  refine AW.rgs rfl fun K1 hK1 => ?_
  refine mv rfl rfl ?_
  refine mv rfl rfl ?_
  refine b_nil (hK1 _ (AW.to (to_le (s' := ⟨[(0, .ptr id ver 0), (1, .str m)], H⟩) (le_slH ⟨rfl, rfl, trivial⟩) ?_)))
  clear hK1 K1
  refine AW.rgs rfl fun K1 hK1 => ?_
  refine mv rfl rfl ?_
  refine b_op rfl (o_callA rfl rfl rfl rfl (c_copyCheck hg ?_))
  refine b_nil (hK1 _ (AW.to (to_le (s' := ⟨[(0, .ptr id ver 0), (1, .str m)], (id, ver, .arr 2 116 [.ptr id ver 0, .ar aid aver 1 0 l.length]) :: H⟩) (le_slH ⟨rfl, rfl, trivial⟩) ?_)))
  clear hK1 K1
  have ha1 : hget ((id, ver, AObj.arr 2 116 [.ptr id ver 0, .ar aid aver 1 0 l.length]) :: H) aid = some (aver, .arr eByte.k 5 (eByte.E l)) := hget_1 hid ha
  refine AW.rgs rfl fun K1 hK1 => ?_
  refine mv rfl rfl ?_
  refine mv rfl rfl ?_
  refine bv rfl (v_nilP rfl hget_0) ?_
  refine bv rfl (v_fieldAddrP fo116_1 rfl hget_0) ?_
  refine bv rfl (v_loadP ty25 rfl hget_0 (l_lit rfl rfl)) ?_
  refine mv rfl rfl ?_
  refine b_op rfl (o_appS (l := l) (m := m) rfl rfl ty25 ty9 ty5 rfl ha1 rfl rfl rfl hfit (fun av => ?_))
  refine bv rfl (v_nilP rfl (hget_1 (fun e => hid e.symm) hget_0)) ?_
  refine bv rfl (v_fieldAddrP fo116_1 rfl (hget_1 (fun e => hid e.symm) hget_0)) ?_
  refine b_op rfl (o_store (cs := [.ar aid av 1 0 (l ++ m).length]) (zs := [.ptr id ver 0, .ar aid av 1 0 (l ++ m).length]) rfl rfl rfl ty25 rfl (hget_1 (fun e => hid e.symm) hget_0) rfl rfl rfl ?_)
  refine b_nil (hK1 _ (AW.to (to_le (s' := ⟨[(1, .str m)], (id, ver, .arr 2 116 [.ptr id ver 0, .ar aid av 1 0 (l ++ m).length]) :: (aid, av, .arr 1 5 (eByte.E (l ++ m))) :: H⟩) ⟨leS_get ⟨rfl, trivial⟩, fun j x hx => ?_⟩ ?_)))
  · simp only [hget] at hx ⊢
    by_cases h1 : j = id
    · subst h1; simpa using hx
    · rw [if_neg h1] at hx ⊢
      by_cases h2 : j = aid
      · rw [if_pos h2] at hx ⊢; exact hx
      · rw [if_neg h2] at hx
        rw [if_neg h2, if_neg h1]
        exact hx
  clear hK1 K1
  refine AW.rgs rfl fun K1 hK1 => ?_
  refine mv rfl rfl ?_
  refine bv rfl (v_lenS rfl rfl ty9 rfl) ?_
  refine mv rfl rfl ?_
  refine mv rfl rfl ?_
  refine b_nil (hK1 _ (AW.to (to_le (s' := ⟨[(4, .int .i64 (m.length : Int)), (5, .v .nilIface)], (id, ver, .arr 2 116 [.ptr id ver 0, .ar aid av 1 0 (l ++ m).length]) :: (aid, av, .arr 1 5 (eByte.E (l ++ m))) :: H⟩) (le_slH ⟨rfl, rfl, trivial⟩) ?_)))
  clear hK1 K1
  refine AW.ret ⟨.inr rfl, ?_⟩
  simp only [go_sem]
  exact ⟨_, _, Conv.refl _ _, hK av⟩
end Go.AW

namespace Go.Proofs
open Go
def Tryd.itoa_ren : Go.Shelf.Ren := ⟨fun | 171 => 80 | 243 => 93 | 246 => 97 | 283 => 98 | 284 => 99 | 285 => 100 | 286 => 101 | 129 => 78 | 317 => 102 | 318 => 103 | 319 => 104 | 320 => 105 | 337 => 106 | 338 => 107 | n => n, fun | 3 => 3 | 9 => 9 | 2 => 2 | 4 => 4 | 171 => 142 | 0 => 0 | 53 => 95 | 37 => 25 | 5 => 5 | 173 => 144 | 212 => 148 | 51 => 97 | 20 => 20 | 213 => 149 | 46 => 85 | 232 => 150 | 233 => 151 | n => n, fun | 17 => 0 | 18 => 1 | 19 => 2 | n => n⟩
theorem Tryd.itoa : Go.Proofs.Lays.n171 Tryd.prog Tryd.itoa_ren where
  mixed := by kernel_rfl
  f129 := Tryd.func78.trans (congrArg some (by kernel_rfl))
  f171 := Tryd.func80.trans (congrArg some (by kernel_rfl))
  f243 := Tryd.func93.trans (congrArg some (by kernel_rfl))
  f246 := Tryd.func97.trans (congrArg some (by kernel_rfl))
  f283 := Tryd.func98.trans (congrArg some (by kernel_rfl))
  f284 := Tryd.func99.trans (congrArg some (by kernel_rfl))
  f285 := Tryd.func100.trans (congrArg some (by kernel_rfl))
  f286 := Tryd.func101.trans (congrArg some (by kernel_rfl))
  f317 := Tryd.func102.trans (congrArg some (by kernel_rfl))
  f318 := Tryd.func103.trans (congrArg some (by kernel_rfl))
  f319 := Tryd.func104.trans (congrArg some (by kernel_rfl))
  f320 := Tryd.func105.trans (congrArg some (by kernel_rfl))
  f337 := Tryd.func106.trans (congrArg some (by kernel_rfl))
  f338 := Tryd.func107.trans (congrArg some (by kernel_rfl))
  t0 := Tryd.underlying0
  a0 := Tryd.isAgg0
  z0 := Tryd.sizeOf0
  v0 := Tryd.zeroValue0
  t2 := Tryd.underlying2
  a2 := Tryd.isAgg2
  z2 := Tryd.sizeOf2
  v2 := Tryd.zeroValue2
  t3 := Tryd.underlying3
  a3 := Tryd.isAgg3
  z3 := Tryd.sizeOf3
  v3 := Tryd.zeroValue3
  t4 := Tryd.underlying4
  a4 := Tryd.isAgg4
  z4 := Tryd.sizeOf4
  v4 := Tryd.zeroValue4
  t5 := Tryd.underlying5
  a5 := Tryd.isAgg5
  z5 := Tryd.sizeOf5
  v5 := Tryd.zeroValue5
  t9 := Tryd.underlying9
  a9 := Tryd.isAgg9
  z9 := Tryd.sizeOf9
  v9 := Tryd.zeroValue9
  t20 := Tryd.underlying20
  a20 := Tryd.isAgg20
  z20 := Tryd.sizeOf20
  v20 := Tryd.zeroValue20
  t37 := Tryd.underlying25
  a37 := Tryd.isAgg25
  z37 := Tryd.sizeOf25
  v37 := Tryd.zeroValue25
  t46 := Tryd.underlying85
  a46 := Tryd.isAgg85
  z46 := Tryd.sizeOf85
  v46 := Tryd.zeroValue85
  t51 := Tryd.underlying97
  a51 := Tryd.isAgg97
  z51 := Tryd.sizeOf97
  v51 := Tryd.zeroValue97
  t53 := Tryd.underlying95
  a53 := Tryd.isAgg95
  z53 := Tryd.sizeOf95
  v53 := Tryd.zeroValue95
  t171 := Tryd.underlying142
  a171 := Tryd.isAgg142
  z171 := Tryd.sizeOf142
  v171 := Tryd.zeroValue142
  t173 := Tryd.underlying144
  a173 := Tryd.isAgg144
  z173 := Tryd.sizeOf144
  v173 := Tryd.zeroValue144
  t212 := Tryd.underlying148
  a212 := Tryd.isAgg148
  z212 := Tryd.sizeOf148
  v212 := Tryd.zeroValue148
  t213 := Tryd.underlying149
  a213 := Tryd.isAgg149
  z213 := Tryd.sizeOf149
  t232 := Tryd.underlying150
  a232 := Tryd.isAgg150
  z232 := Tryd.sizeOf150
  v232 := Tryd.zeroValue150
  t233 := Tryd.underlying151
  a233 := Tryd.isAgg151
  z233 := Tryd.sizeOf151
  v233 := Tryd.zeroValue151
  g17 := by kernel_rfl
  g18 := by kernel_rfl
  g19 := by kernel_rfl
end Go.Proofs

/- strconv.Itoa of numbers of one or two digits. -/
namespace Go.AW
open Go
def dec2 (n : Nat) : List UInt8 := if n < 10 then [UInt8.ofNat (48 + n)] else [UInt8.ofNat (48 + n / 10), UInt8.ofNat (48 + n % 10)]
def m_strconv_Itoa (p0 : Int) : Option (List UInt8) := if 0 ≤ p0 ∧ p0 < 100 then some (dec2 p0.toNat) else none
end Go.AW

/- strconv.Itoa of numbers of one or two digits, by the kit's contract. -/
namespace Go.AW
open Go Go.Proofs
theorem dec2_eq {n : Nat} (h : n < 100) : Lib.decDigits n = dec2 n := by
  unfold dec2
  rw [Lib.decDigits]
  by_cases h1 : n < 10
  · rw [dif_pos h1, if_pos h1]
  · rw [dif_neg h1, if_neg h1, Lib.decDigits, dif_pos (by omega)]
    rfl
theorem w_strconv_Itoa {p0 : Int} {r : List UInt8} (h : m_strconv_Itoa p0 = some r) : Pure Tryd.prog 80 [HV.int .i64 p0] (· = HV.str r) := by
  unfold m_strconv_Itoa at h
  split at h
  · rename_i hc
    cases h
    obtain ⟨m, rfl⟩ := Int.eq_ofNat_of_zero_le hc.1
    refine ⟨enters' Tryd.func80 rfl rfl, fun μ w vs hs hr => ?_⟩
    obtain ⟨x, xs, rfl, ⟨rfl, _⟩, hn⟩ := hr
    cases hn
    refine (Any.strconv_Itoa_small Tryd.itoa m (by omega) w).mono ?_
    rintro e w' ⟨rfl, rfl⟩
    refine ⟨_, HV.str (dec2 m), [], μ, rfl, ⟨rfl, trivial, rfl⟩, hs, ⟨?_, ?_⟩, Evo.refl _ _⟩
    · rw [dec2_eq (by omega)]
    · unfold dec2; split <;> simp [maxLen]
  · cases h
end Go.AW

/- Models, printed by lk.py. -/
namespace Go.AW
open Go
set_option linter.unusedVariables false
noncomputable def m_graph_list (p0 : TFromLabelTo) : Option ((List (Int))) :=
  some [p0.1, p0.2.1, p0.2.2]

noncomputable def m_cmp_isNaN_int (p0 : Int) : Option (Bool) :=
  some (decide (p0 ≠ p0))

noncomputable def m_cmp_Compare_int (p0 : Int) (p1 : Int) : Option (Int) :=
  (m_cmp_isNaN_int p0).bind fun x1 =>
  (m_cmp_isNaN_int p1).bind fun x3 =>
  if x1 = true then
    if x3 = true then
      some 0
    else
      some (-1)
  else
    if x3 = true then
      some 1
    else
      if p0 < p1 then
        some (-1)
      else
        if p1 < p0 then
          some 1
        else
          some 0

noncomputable def m_slices_Compare_Lint_int (p0 : List (Int)) (p1 : List (Int)) : Option (Int) :=
  lpO (loopW (S := Int) (X := Ou (Unit) (Int)) (fun a1 =>
      if a1 < ((p0).length : Int) then
        (idx p0 a1).bind fun x5 =>
        if ((p1).length : Int) ≤ a1 then
          some (Stp.exit (Ou.ret 1))
        else
          (idx p1 a1).bind fun x7 =>
          (m_cmp_Compare_int x5 x7).bind fun x9 =>
          if x9 ≠ 0 then
            some (Stp.exit (Ou.ret x9))
          else
            some (Stp.next (IntKind.wrap .i64 (a1 + 1)))
      else
        some (Stp.exit (Ou.go ()))) 0) (fun a11 =>
      if ((p0).length : Int) < ((p1).length : Int) then
        some (-1)
      else
        some 0) some

noncomputable def m_graph_by_api_Edge_1 (p0 : TFromLabelTo) (p1 : TFromLabelTo) : Option (Int) :=
  (m_graph_list p0).bind fun x1 =>
  (m_graph_list p1).bind fun x3 =>
  (m_slices_Compare_Lint_int x1 x3).bind fun x5 =>
  some x5

noncomputable def m_graph_Check (p0 : TLabelsStatesEdges) : Option (Int) :=
  jp (fun (a1 : Bool) =>
    if a1 = true then
      some 12
    else
      if p0.2.1 < 0 then
        some 2
      else
        jp (fun (a4 : Bool) =>
          if a4 = true then
            some 4
          else
            lpO (loopW (S := Int) (X := Ou (Unit) (Int)) (fun a7 =>
                if a7 < ((p0.2.2).length : Int) then
                  (idx p0.2.2 a7).bind fun x11 =>
                  jp (fun (a14 : Bool) =>
                    if a14 = true then
                      some (Stp.exit (Ou.ret 2))
                    else
                      jp (fun (a17 : Bool) =>
                        if a17 = true then
                          some (Stp.exit (Ou.ret 10))
                        else
                          some (Stp.next (IntKind.wrap .i64 (a7 + 1))))
                        fun k19 =>
                        if 0 < a7 then
                          (idx p0.2.2 (IntKind.wrap .i64 (a7 - 1))).bind fun x20 =>
                          (m_graph_by_api_Edge_1 x20 x11).bind fun x22 =>
                          k19 (decide (0 ≤ x22))
                        else
                          k19 false)
                    fun k16 =>
                    if (min (min x11.1 x11.2.1) x11.2.2) < 0 then
                      k16 true
                    else
                      if p0.2.1 ≤ (max x11.1 x11.2.2) then
                        k16 true
                      else
                        k16 (decide (p0.1 ≤ x11.2.1))
                else
                  some (Stp.exit (Ou.go ()))) 0) (fun a27 =>
                some 0) some)
          fun k6 =>
          if 64 < p0.2.1 then
            k6 true
          else
            k6 (decide (1024 < ((p0.2.2).length : Int))))
    fun k3 =>
    if p0.1 < 1 then
      k3 true
    else
      k3 (decide (256 < p0.1))

noncomputable def m_graph_checkSet (p0 : TLabelsStatesEdges) (p1 : List (Int)) : Option (Int) :=
  lpO (loopW (S := Int) (X := Ou (Unit) (Int)) (fun a1 =>
      if a1 < ((p1).length : Int) then
        (idx p1 a1).bind fun x5 =>
        jp (fun (a7 : Bool) =>
          if a7 = true then
            some (Stp.exit (Ou.ret 25))
          else
            jp (fun (a10 : Bool) =>
              if a10 = true then
                some (Stp.exit (Ou.ret 10))
              else
                some (Stp.next (IntKind.wrap .i64 (a1 + 1))))
              fun k12 =>
              if 0 < a1 then
                (idx p1 (IntKind.wrap .i64 (a1 - 1))).bind fun x13 =>
                k12 (decide (x5 ≤ x13))
              else
                k12 false)
          fun k9 =>
          if x5 < 0 then
            k9 true
          else
            k9 (decide (p0.2.1 ≤ x5))
      else
        some (Stp.exit (Ou.go ()))) 0) (fun a17 =>
      some 0) some

noncomputable def m_graph_Step (p0 : TLabelsStatesEdges) (p1 : List (Int)) (p2 : Int) : Option ((List (Int)) × Int) :=
  (m_graph_Check p0).bind fun x1 =>
  if x1 ≠ 0 then
    some ([], 1)
  else
    (m_graph_checkSet p0 p1).bind fun x3 =>
    if x3 ≠ 0 then
      some ([], x3)
    else
      jp (fun (a5 : Bool) =>
        if a5 = true then
          some ([], 2)
        else
          (loopW (S := Int × (List Int)) (X := (List Int)) (fun a9 =>
              if a9.1 < ((p1).length : Int) then
                (idx p1 a9.1).bind fun x13 =>
                (y_graph_leaving p0 x13).bind fun L15 =>
                lpO (forL (S := (List Int)) (X := Unit) (fun a17 (x19 : Int × TFromLabelTo) =>
                    if x19.2.2.1 = p2 then
                      if fits 8 ((a17 : List Int).length + ([x19.2.2.2]).length) then
                        some (Stp.next (a17 ++ [x19.2.2.2]))
                      else none
                    else
                      some (Stp.next a17)) L15 a9.2) (fun a26 =>
                    some (Stp.next (IntKind.wrap .i64 (a9.1 + 1), a26))) fun a28 =>
                    none
              else
                some (Stp.exit a9.2)) (0, ([] : List Int))).bind fun a31 =>
          if (a31).length < 4611686018427387904 then
            some (compact_ (sortI a31), 0)
          else none)
        fun k7 =>
        if p2 < 0 then
          k7 true
        else
          k7 (decide (p0.1 ≤ p2))

noncomputable def m_ref09_Compare (p0 : TFromLabelTo) (p1 : TFromLabelTo) : Option (Int) :=
  lpO (loopW (S := Int) (X := Ou (Unit) (Int)) (fun a1 =>
      if a1 < 3 then
        (idx [p0.1, p0.2.1, p0.2.2] a1).bind fun x5 =>
        (idx [p1.1, p1.2.1, p1.2.2] a1).bind fun x7 =>
        if x5 < x7 then
          some (Stp.exit (Ou.ret (-1)))
        else
          (idx [p0.1, p0.2.1, p0.2.2] a1).bind fun x9 =>
          (idx [p1.1, p1.2.1, p1.2.2] a1).bind fun x11 =>
          if x11 < x9 then
            some (Stp.exit (Ou.ret 1))
          else
            some (Stp.next (IntKind.wrap .i64 (a1 + 1)))
      else
        some (Stp.exit (Ou.go ()))) 0) (fun a13 =>
      some 0) some

noncomputable def m_ref09_Check (p0 : TLabelsStatesEdges) : Option (Int) :=
  jp (fun (a1 : Bool) =>
    if a1 = true then
      some 12
    else
      if p0.2.1 < 0 then
        some 2
      else
        jp (fun (a4 : Bool) =>
          if a4 = true then
            some 4
          else
            lpO (loopW (S := Int) (X := Ou (Unit) (Int)) (fun a7 =>
                if a7 < ((p0.2.2).length : Int) then
                  (idx p0.2.2 a7).bind fun x11 =>
                  jp (fun (a14 : Bool) =>
                    if a14 = true then
                      some (Stp.exit (Ou.ret 2))
                    else
                      jp (fun (a17 : Bool) =>
                        if a17 = true then
                          some (Stp.exit (Ou.ret 10))
                        else
                          some (Stp.next (IntKind.wrap .i64 (a7 + 1))))
                        fun k19 =>
                        if 0 < a7 then
                          (idx p0.2.2 (IntKind.wrap .i64 (a7 - 1))).bind fun x20 =>
                          (m_ref09_Compare x20 x11).bind fun x22 =>
                          k19 (decide (0 ≤ x22))
                        else
                          k19 false)
                    fun k16 =>
                    if x11.1 < 0 then
                      k16 true
                    else
                      if p0.2.1 ≤ x11.1 then
                        k16 true
                      else
                        if x11.2.2 < 0 then
                          k16 true
                        else
                          if p0.2.1 ≤ x11.2.2 then
                            k16 true
                          else
                            if x11.2.1 < 0 then
                              k16 true
                            else
                              k16 (decide (p0.1 ≤ x11.2.1))
                else
                  some (Stp.exit (Ou.go ()))) 0) (fun a30 =>
                some 0) some)
          fun k6 =>
          if 64 < p0.2.1 then
            k6 true
          else
            k6 (decide (1024 < ((p0.2.2).length : Int))))
    fun k3 =>
    if p0.1 < 1 then
      k3 true
    else
      k3 (decide (256 < p0.1))

end Go.AW

/- What functions of the library compute that chapter 11 uses (not printed). -/
namespace Go.AW
open Go
def m_slices_Clone_Lint_int (l : List Int) : Option (List Int) := if l.length ≤ 1099511627776 then some l else none
end Go.AW

/- slices.Clone of numbers (laid as the kit's contract asks). -/
namespace Go.Proofs
open Go
def Tryd.cloneI_ren : Go.Shelf.Ren := ⟨fun | 41 => 35 | n => n, fun | 22 => 30 | 23 => 3 | 4 => 4 | n => n, fun | n => n⟩
theorem Tryd.cloneI : Go.Proofs.SlLaysE0.n41 Tryd.prog Tryd.cloneI_ren where
  mixed := by kernel_rfl
  f41 := ⟨"slices.Clone[[]int,int]", by decide, Tryd.func35.trans (congrArg some (by kernel_rfl))⟩
  t4 := Tryd.underlying4
  a4 := Tryd.isAgg4
  z4 := Tryd.sizeOf4
  v4 := Tryd.zeroValue4
  t22 := Tryd.underlying30
  a22 := Tryd.isAgg30
  z22 := Tryd.sizeOf30
  v22 := Tryd.zeroValue30
end Go.Proofs

namespace Go.AW
open Go Go.Proofs Go.Sort Go.Lib

theorem clone_step {l : List Int} (h : l.length ≤ 1099511627776) {H : Heap} {K : HV → Heap → Prop} (id : Nat) (hnil : l = [] → K (.v (.slice none 0 0)) H) (hK : ∀ ver, K (.ar id ver 1 0 l.length) (hset H id ver (.arr 1 3 (l.map (HV.int .i64))))) : ACall Tryd.prog 35 [.sl 1 l.length (l.map (HV.int .i64))] H K := by
  refine ⟨enters' Tryd.func35 rfl rfl, fun μ w vs hs hr => ?_⟩
  obtain ⟨x, xs, rfl, hr, hn⟩ := hr
  cases hn
  obtain ⟨_, _, hm, ⟨h0, rfl⟩ | ⟨b, off, cap, vs, rfl, hcap, hno, hsg, hrl⟩⟩ := hr
  · refine (AnyE.slices_Clone_nil Tryd.cloneI _ _ w).mono ?_
    rintro e w' ⟨rfl, rfl⟩
    exact ⟨_, _, _, μ, rfl, hnil (List.eq_nil_of_length_eq_zero h0), hs, rfl, Evo.refl _ _⟩
  · obtain ⟨hvs, hreps⟩ := repL_ints hrl
    subst hvs
    obtain ⟨_, i0, hi0, hz1, hz2, hz0⟩ := ty_spec ty3
    refine (AnyE.slices_Clone Tryd.cloneI i0 _ 1 8 hi0 hz0 hz1 hz2 rfl (by decide) (fun w => Tryd.sizeOf3 w) b off l.length cap (l.map (Value.int .i64)) w (by simp) hm (by omega) (fun j u hj => hsg.cell hj) (fun u hu => by
      obtain ⟨x, _, rfl⟩ := List.mem_map.1 hu; rfl)).mono ?_
    rintro e w' ⟨v', rfl, ⟨_, ⟨rfl, _⟩ | ⟨g, cap', cur, rfl, hg1, hg2, hc1, hc2, hc3, hc4⟩⟩, hnn, hbel⟩
    · exact absurd rfl hnn
    · have hsame : Same w w' := ⟨hbel.os, hbel.tape, hbel.output⟩
      have hold : ∀ k, k < w.heap.size → w'.heap[k]? = w.heap[k]? := hbel.block
      have hE := Evo.repl (w' := w') hs id (some g) hsame hbel.size (fun b hb _ => hold b hb) (fun b hb => by cases hb; exact .inl hg1)
      have hrowg : Row w' g cur 3 := ⟨0, 0, hg2, .inl (Nat.le_refl _)⟩
      have hsr := hs.repl (w' := w') id (some g) (.arr 1 3 (l.map (HV.int .i64))) hsame hbel.size (fun b hb _ => hold b hb) (fun b hb => by cases hb; exact .inl hg1)
        ⟨fun c hc => by obtain ⟨x, _, rfl⟩ := List.mem_map.1 hc; rfl, cur, l.map (Value.int .i64), cur.toList.drop (l.length * 1), hrowg, by rw [← hc4, List.take_append_drop], repL_map.2 fun x hx => Rep.evo hE hs.ok _ _ (hreps x hx)⟩
      refine ⟨_, .ar id μ.nx 1 0 l.length, _, μ.set id (some g), rfl, hK μ.nx, hsr, .inl ⟨some g, by simp [Mu.set], .inr ⟨g, cap', cur, 3, rfl, rfl, hc1, hc2, hrowg, by omega⟩⟩, hE⟩

theorem c_cloneO {l r : List Int} {H : Heap} {K : HV → Heap → Prop} (id : Nat) (h : m_slices_Clone_Lint_int l = some r) (hK : ∀ ver, K (.ar id ver 1 0 r.length) (hset H id ver (.arr 1 3 (r.map (HV.int .i64))))) : ACall Tryd.prog 35 [slE eInt l] H K := by
  unfold m_slices_Clone_Lint_int at h
  split at h
  · rename_i hl
    cases h
    refine ⟨enters' Tryd.func35 rfl rfl, fun μ w vs hs hr => ?_⟩
    obtain ⟨x, xs, rfl, hr, hn⟩ := hr
    cases hn
    have hr2 := hr
    obtain ⟨_, _, hm, ⟨h0, rfl⟩ | ⟨b, off, cap, vs, rfl, hcap, hno, hsg, hrl⟩⟩ := hr2
    · refine (AnyE.slices_Clone_nil Tryd.cloneI _ _ w).mono ?_
      rintro e w' ⟨rfl, rfl⟩
      have hl0 : l = [] := List.eq_nil_of_length_eq_zero h0
      subst hl0
      exact ⟨_, .ar id μ.nx 1 0 0, _, μ.set id none, rfl, hK μ.nx, hs.repl id none (.arr 1 3 []) (Same.refl _) (Nat.le_refl _) (fun _ _ _ => rfl) (fun b hb => by cases hb) rfl, .inl ⟨none, by simp [Mu.set], .inl ⟨rfl, rfl, rfl, rfl⟩⟩, Evo.repl hs id none (Same.refl _) (Nat.le_refl _) (fun _ _ _ => rfl) (fun b hb => by cases hb)⟩
    · obtain ⟨hvs, hreps⟩ := repL_ints hrl
      subst hvs
      obtain ⟨_, i0, hi0, hz1, hz2, hz0⟩ := ty_spec ty3
      refine (AnyE.slices_Clone Tryd.cloneI i0 _ 1 8 hi0 hz0 hz1 hz2 rfl (by decide) (fun w => Tryd.sizeOf3 w) b off l.length cap (l.map (Value.int .i64)) w (by simp) hm (by omega) (fun j u hj => hsg.cell hj) (fun u hu => by
        obtain ⟨x, _, rfl⟩ := List.mem_map.1 hu; rfl)).mono ?_
      rintro e w' ⟨v', rfl, ⟨_, ⟨rfl, _⟩ | ⟨g, cap', cur, rfl, hg1, hg2, hc1, hc2, hc3, hc4⟩⟩, hnn, hbel⟩
      · exact absurd rfl hnn
      · have hsame : Same w w' := ⟨hbel.os, hbel.tape, hbel.output⟩
        have hold : ∀ k, k < w.heap.size → w'.heap[k]? = w.heap[k]? := hbel.block
        have hE := Evo.repl (w' := w') hs id (some g) hsame hbel.size (fun b hb _ => hold b hb) (fun b hb => by cases hb; exact .inl hg1)
        have hrowg : Row w' g cur 3 := ⟨0, 0, hg2, .inl (Nat.le_refl _)⟩
        have hsr := hs.repl (w' := w') id (some g) (.arr 1 3 (l.map (HV.int .i64))) hsame hbel.size (fun b hb _ => hold b hb) (fun b hb => by cases hb; exact .inl hg1)
          ⟨fun c hc => by obtain ⟨x, _, rfl⟩ := List.mem_map.1 hc; rfl, cur, l.map (Value.int .i64), cur.toList.drop (l.length * 1), hrowg, by rw [← hc4, List.take_append_drop], repL_map.2 fun x hx => Rep.evo hE hs.ok _ _ (hreps x hx)⟩
        refine ⟨_, .ar id μ.nx 1 0 l.length, _, μ.set id (some g), rfl, hK μ.nx, hsr, .inl ⟨some g, by simp [Mu.set], .inr ⟨g, cap', cur, 3, rfl, rfl, hc1, hc2, hrowg, by omega⟩⟩, hE⟩
  · cases h

theorem w_slices_Clone_Lint_int {l r : List Int} (h : m_slices_Clone_Lint_int l = some r) : Pure Tryd.prog 35 [slE eInt l] (· = slE eInt r) := by
  unfold m_slices_Clone_Lint_int at h
  split at h
  · rename_i hl
    cases h
    refine ACall.conv' (K := fun r H' => (l = [] ∧ r = .v (.slice none 0 0) ∧ H' = []) ∨ ∃ ver, r = .ar 0 ver 1 0 l.length ∧ H' = hset [] 0 ver (.arr 1 3 (l.map (HV.int .i64)))) (clone_step hl 0 (fun e => .inl ⟨e, rfl, rfl⟩) fun ver => .inr ⟨ver, rfl, rfl⟩) ?_
    rintro r H' (⟨rfl, rfl, rfl⟩ | ⟨ver, rfl, rfl⟩)
    · have hcl : clean (slE eInt []) := clean_slE (c := eInt) fun _ _ => ⟨trivial, trivial⟩
      exact ⟨_, _, Conv.le (Le.nil 1), rfl, hcl, rfl⟩
    · refine ⟨_, [], Conv.all 2, ?_⟩
      have hf := frz_slE eInt (D := [(0, ver, .arr 1 3 (l.map (HV.int .i64)))]) (l := l) hget_0 (fun _ _ => rfl)
      have hcl : clean (slE eInt l) := clean_slE (c := eInt) fun _ _ => ⟨trivial, trivial⟩
      have h2 := hcl
      rw [← hf] at h2
      exact ⟨hf, h2, rfl⟩
  · cases h
end Go.AW

/- Models, printed by lk.py. -/
namespace Go.AW
open Go
set_option linter.unusedVariables false
abbrev TNegMag := Bool × (List UInt8)
abbrev cNegMag (x : TNegMag) : List HV := [HV.bool x.1, HV.str x.2]
abbrev eNegMag : EncL TNegMag := encF 2 cNegMag (fun _ => rfl)
noncomputable def m_integer_trim (p0 : List (Int)) : Option ((List (Int))) :=
  (loopW (S := (List Int)) (X := (List Int)) (fun a1 =>
      jp (fun (a5 : Bool) =>
        if a5 = true then
          if 0 ≤ (0 : Int) ∧ (0 : Int) ≤ IntKind.wrap .i64 (((a1).length : Int) - 1) ∧ IntKind.wrap .i64 (((a1).length : Int) - 1) ≤ (a1.length : Int) then
            some (Stp.next ((a1.take (IntKind.wrap .i64 (((a1).length : Int) - 1)).toNat).drop (0 : Int).toNat))
          else none
        else
          some (Stp.exit a1))
        fun k7 =>
        if 0 < ((a1).length : Int) then
          (idx a1 (IntKind.wrap .i64 (((a1).length : Int) - 1))).bind fun x9 =>
          k7 (decide (x9 = 0))
        else
          k7 false) p0).bind fun a12 =>
  some a12

noncomputable def m_integer_number (p0 : Bool) (p1 : List (Int)) : Option (TNegMag) :=
  (m_integer_trim p1).bind fun x2 =>
  if ((x2).length : Int) = 0 then
    some (false, ([] : List UInt8))
  else
    if 0 ≤ (0 : Int) ∧ (0 : Int) ≤ IntKind.wrap .i64 (4 * ((x2).length : Int)) ∧ (IntKind.wrap .i64 (4 * ((x2).length : Int)) : Int) * 1 ≤ 281474976710656 then
      (loopW (S := Int × (List Int)) (X := (List Int)) (fun a6 =>
          if 0 ≤ a6.1 then
            (loopW (S := Int × (List Int)) (X := (List Int)) (fun a10 =>
                if 0 ≤ a10.1 then
                  jp (fun (a14 : (List Int)) =>
                    some (Stp.next (IntKind.wrap .i64 (a10.1 - 1), a14)))
                    fun k16 =>
                    (idx x2 a6.1).bind fun x17 =>
                    if 0 ≤ (IntKind.wrap .i64 (8 * a10.1)) then
                      jp (fun (a20 : Bool) =>
                        if a20 = true then
                          if fits 1 ((a10.2 : List Int).length + ([IntKind.wrap .u8 (Int.fdiv x17 (2 ^ (min ((IntKind.wrap .i64 (8 * a10.1))).toNat (IntKind.bits .u32))))]).length) then
                            k16 (a10.2 ++ [IntKind.wrap .u8 (Int.fdiv x17 (2 ^ (min ((IntKind.wrap .i64 (8 * a10.1))).toNat (IntKind.bits .u32))))])
                          else none
                        else
                          k16 a10.2)
                        fun k22 =>
                        if (IntKind.wrap .u8 (Int.fdiv x17 (2 ^ (min ((IntKind.wrap .i64 (8 * a10.1))).toNat (IntKind.bits .u32))))) ≠ 0 then
                          k22 true
                        else
                          k22 (decide (0 < (((a10.2).length : Nat) : Int)))
                    else none
                else
                  some (Stp.exit a10.2)) (3, a6.2)).bind fun a26 =>
            some (Stp.next (IntKind.wrap .i64 (a6.1 - 1), a26))
          else
            some (Stp.exit a6.2)) (IntKind.wrap .i64 (((x2).length : Int) - 1), List.replicate (0 : Int).toNat (0 : Int))).bind fun a28 =>
      some (p0, a28.map fun n => UInt8.ofNat n.toNat)
    else none

noncomputable def m_integer_Of (p0 : Int) : Option (TNegMag) :=
  jp (fun (a2 : Int) =>
    (m_integer_number (decide (p0 < 0)) [IntKind.wrap .u32 a2, IntKind.wrap .u32 (Int.fdiv a2 (2 ^ (min (32 : Int).toNat (IntKind.bits .u64))))]).bind fun x5 =>
    some x5)
    fun k4 =>
    if p0 < 0 then
      k4 (IntKind.wrap .u64 (0 - (IntKind.wrap .u64 p0)))
    else
      k4 (IntKind.wrap .u64 p0)

noncomputable def m_integer_digits (p0 : TNegMag) : Option ((List (Int))) :=
  if 0 ≤ (IntKind.wrap .i64 (Int.tdiv (IntKind.wrap .i64 (((p0.2).length : Int) + 3)) 4) : Int) ∧ (IntKind.wrap .i64 (Int.tdiv (IntKind.wrap .i64 (((p0.2).length : Int) + 3)) 4) : Int) ≤ IntKind.wrap .i64 (Int.tdiv (IntKind.wrap .i64 (((p0.2).length : Int) + 3)) 4) ∧ (IntKind.wrap .i64 (Int.tdiv (IntKind.wrap .i64 (((p0.2).length : Int) + 3)) 4) : Int) * 4 ≤ 281474976710656 then
    (loopW (S := Int × (List Int)) (X := (List Int)) (fun a3 =>
        if a3.1 < ((p0.2).length : Int) then
          (idx p0.2 (IntKind.wrap .i64 ((IntKind.wrap .i64 (((p0.2).length : Int) - 1)) - a3.1))).bind fun x7 =>
          (idx a3.2 (IntKind.wrap .i64 (Int.tdiv a3.1 4))).bind fun x9 =>
          (idx a3.2 (IntKind.wrap .i64 (Int.tdiv a3.1 4))).bind fun x11 =>
          if 0 ≤ (IntKind.wrap .i64 (8 * (Int.tmod a3.1 4))) then
            (idx a3.2 (IntKind.wrap .i64 (Int.tdiv a3.1 4))).bind fun x14 =>
            some (Stp.next (IntKind.wrap .i64 (a3.1 + 1), (a3.2).set (IntKind.wrap .i64 (Int.tdiv a3.1 4)).toNat (IntKind.wrap .u32 (BitVec.ofInt (IntKind.bits .u32) x11 ||| BitVec.ofInt (IntKind.bits .u32) (IntKind.wrap .u32 ((IntKind.wrap .u32 (x7.toNat : Int)) * 2 ^ (min ((IntKind.wrap .i64 (8 * (Int.tmod a3.1 4)))).toNat (IntKind.bits .u32))))).toNat)))
          else none
        else
          some (Stp.exit a3.2)) (0, List.replicate (IntKind.wrap .i64 (Int.tdiv (IntKind.wrap .i64 (((p0.2).length : Int) + 3)) 4)).toNat (0 : Int))).bind fun a16 =>
    (m_integer_trim a16).bind fun x18 =>
    some x18
  else none

noncomputable def m_integer_add (p0 : List (Int)) (p1 : List (Int)) : Option ((List (Int))) :=
  jp (fun (a1 : (List Int) × (List Int)) =>
    if 0 ≤ (IntKind.wrap .i64 (((a1.1).length : Int) + 1) : Int) ∧ (IntKind.wrap .i64 (((a1.1).length : Int) + 1) : Int) ≤ IntKind.wrap .i64 (((a1.1).length : Int) + 1) ∧ (IntKind.wrap .i64 (((a1.1).length : Int) + 1) : Int) * 4 ≤ 281474976710656 then
      (loopW (S := Int × Int × (List Int)) (X := (List Int) × Int) (fun a6 =>
          if a6.2.1 < ((a1.1).length : Int) then
            (idx a1.1 a6.2.1).bind fun x10 =>
            jp (fun (a12 : Int) =>
              (idx a6.2.2 a6.2.1).bind fun x15 =>
              some (Stp.next (Int.fdiv a12 (2 ^ (min (32 : Int).toNat (IntKind.bits .u64))), IntKind.wrap .i64 (a6.2.1 + 1), (a6.2.2).set (a6.2.1).toNat (IntKind.wrap .u32 a12))))
              fun k14 =>
              if a6.2.1 < ((a1.2).length : Int) then
                (idx a1.2 a6.2.1).bind fun x17 =>
                k14 (IntKind.wrap .u64 ((IntKind.wrap .u64 ((IntKind.wrap .u64 x10) + a6.1)) + (IntKind.wrap .u64 x17)))
              else
                k14 (IntKind.wrap .u64 ((IntKind.wrap .u64 x10) + a6.1))
          else
            some (Stp.exit (a6.2.2, a6.1))) (0, 0, List.replicate (IntKind.wrap .i64 (((a1.1).length : Int) + 1)).toNat (0 : Int))).bind fun a19 =>
      (idx a19.1 ((a1.1).length : Int)).bind fun x21 =>
      (m_integer_trim ((a19.1).set (((a1.1).length : Int)).toNat (IntKind.wrap .u32 a19.2))).bind fun x23 =>
      some x23
    else none)
    fun k3 =>
    if ((p0).length : Int) < ((p1).length : Int) then
      k3 (p1, p0)
    else
      k3 (p0, p1)

noncomputable def m_integer_compare (p0 : List (Int)) (p1 : List (Int)) : Option (Int) :=
  if ((p0).length : Int) ≠ ((p1).length : Int) then
    if ((p0).length : Int) < ((p1).length : Int) then
      some (-1)
    else
      some 1
  else
    lpO (loopW (S := Int) (X := Ou (Unit) (Int)) (fun a1 =>
        if 0 ≤ a1 then
          (idx p0 a1).bind fun x5 =>
          (idx p1 a1).bind fun x7 =>
          if x5 ≠ x7 then
            (idx p0 a1).bind fun x9 =>
            (idx p1 a1).bind fun x11 =>
            if x9 < x11 then
              some (Stp.exit (Ou.ret (-1)))
            else
              some (Stp.exit (Ou.ret 1))
          else
            some (Stp.next (IntKind.wrap .i64 (a1 - 1)))
        else
          some (Stp.exit (Ou.go ()))) (IntKind.wrap .i64 (((p0).length : Int) - 1))) (fun a13 =>
        some 0) some

noncomputable def m_integer_subtract (p0 : List (Int)) (p1 : List (Int)) : Option ((List (Int))) :=
  if 0 ≤ (((p0).length : Int) : Int) ∧ (((p0).length : Int) : Int) ≤ ((p0).length : Int) ∧ (((p0).length : Int) : Int) * 4 ≤ 281474976710656 then
    (loopW (S := Int × Int × (List Int)) (X := (List Int)) (fun a3 =>
        if a3.2.1 < ((p0).length : Int) then
          (idx p0 a3.2.1).bind fun x7 =>
          jp (fun (a9 : Int) =>
            jp (fun (a12 : Int × Int) =>
              (idx a3.2.2 a3.2.1).bind fun x15 =>
              some (Stp.next (a12.1, IntKind.wrap .i64 (a3.2.1 + 1), (a3.2.2).set (a3.2.1).toNat (IntKind.wrap .u32 a12.2))))
              fun k14 =>
              if a9 < 0 then
                k14 (1, IntKind.wrap .i64 (a9 + 4294967296))
              else
                k14 (0, a9))
            fun k11 =>
            if a3.2.1 < ((p1).length : Int) then
              (idx p1 a3.2.1).bind fun x17 =>
              k11 (IntKind.wrap .i64 ((IntKind.wrap .i64 ((IntKind.wrap .i64 x7) - a3.1)) - (IntKind.wrap .i64 x17)))
            else
              k11 (IntKind.wrap .i64 ((IntKind.wrap .i64 x7) - a3.1))
        else
          some (Stp.exit a3.2.2)) (0, 0, List.replicate (((p0).length : Int)).toNat (0 : Int))).bind fun a19 =>
    (m_integer_trim a19).bind fun x21 =>
    some x21
  else none

noncomputable def m_integer_Add (p0 : TNegMag) (p1 : TNegMag) : Option (TNegMag) :=
  (m_integer_digits p0).bind fun x2 =>
  (m_integer_digits p1).bind fun x4 =>
  if (p0.1 == p1.1) = true then
    (m_integer_add x2 x4).bind fun x6 =>
    (m_integer_number p0.1 x6).bind fun x8 =>
    some x8
  else
    (m_integer_compare x2 x4).bind fun x10 =>
    if x10 < 0 then
      (m_integer_subtract x4 x2).bind fun x12 =>
      (m_integer_number p1.1 x12).bind fun x14 =>
      some x14
    else
      (m_integer_subtract x2 x4).bind fun x16 =>
      (m_integer_number p0.1 x16).bind fun x18 =>
      some x18

end Go.AW

namespace Go.AW
open Go

def letters : List UInt8 := [48, 49, 50, 51, 52, 53, 54, 55, 56, 57, 97, 98, 99, 100, 101, 102]

abbrev WS := List UInt8 × List Int

def ext1 (stp : List Int → UInt8 → List Int) (cs : List UInt8) (x : WS) : List WS := cs.filterMap fun c => if stp x.2 c = [] then none else some (x.1 ++ [c], stp x.2 c)

def lvl (stp : List Int → UInt8 → List Int) (cs : List UInt8) (set : List Int) : Nat → List WS
  | 0 => if set = [] then [] else [([], set)]
  | i + 1 => (lvl stp cs set i).flatMap (ext1 stp cs)

section
variable {stp : List Int → UInt8 → List Int} {cs : List UInt8} {set : List Int}

end

end Go.AW

/- What language.list computes: the words level by level, each with its ends. -/
namespace Go.AW
open Go
end Go.AW

/- Models, printed by lk.py. -/
namespace Go.AW
open Go
set_option linter.unusedVariables false
end Go.AW

namespace Go.AW
open Go
end Go.AW

/- What functions compute that chapter 12 uses (not printed). -/
namespace Go.AW
open Go
def m_law12_awake : Option Bool := some true


end Go.AW

/- Models, printed by lk.py. -/
namespace Go.AW
open Go
set_option linter.unusedVariables false
noncomputable def m_subset_key (p0 : List (Int)) : Option ((List UInt8)) :=
  (loopW (S := Int × (List UInt8)) (X := (List UInt8)) (fun a3 =>
      if a3.1 < ((p0).length : Int) then
        (idx p0 a3.1).bind fun x7 =>
        (m_strconv_Itoa x7).bind fun x9 =>
        if x9.length + [32].length ≤ maxLen then
          if fits 1 (a3.2.length + (x9 ++ [32]).length) then
            some (Stp.next (IntKind.wrap .i64 (a3.1 + 1), a3.2 ++ (x9 ++ [32])))
          else none
        else none
      else
        some (Stp.exit a3.2)) (0, ([] : List UInt8))).bind fun a14 =>
  some a14

noncomputable def m_subset_build (p0 : TLabelsStatesEdges) (p1 : List (Int)) : Option (TLabelsStatesEdges × (List (List (Int))) × Int) :=
  (m_subset_key p1).bind fun x3 =>
  (m_slices_Clone_Lint_int p1).bind fun x6 =>
  lpO (loopW (S := (List TFromLabelTo) × Int × (List (List UInt8 × Int)) × (List (List (Int)))) (X := Ou ((List TFromLabelTo) × (List (List (Int)))) (TLabelsStatesEdges × (List (List (Int))) × Int)) (fun a12 =>
      if a12.2.1 < (((a12.2.2.2).length : Nat) : Int) then
        (idx a12.2.2.2 a12.2.1).bind fun x16 =>
        (idx a12.2.2.2 a12.2.1).bind fun x18 =>
        jp (fun (a20 : (List TFromLabelTo) × (List (List UInt8 × Int)) × (List (List (Int)))) =>
          jp (fun (a23 : Bool) =>
            if a23 = true then
              some (Stp.exit (Ou.ret ((0, 0, []), [], 4)))
            else
              some (Stp.next (a20.1, IntKind.wrap .i64 (a12.2.1 + 1), a20.2.1, a20.2.2)))
            fun k25 =>
            if 64 < (((a20.2.2).length : Nat) : Int) then
              k25 true
            else
              k25 (decide (1024 < (((a20.1).length : Nat) : Int))))
          fun k22 =>
          (loopW (S := Int × (List TFromLabelTo) × (List (List UInt8 × Int)) × (List (List (Int)))) (X := (List TFromLabelTo) × (List (List UInt8 × Int)) × (List (List (Int)))) (fun a28 =>
              if a28.1 < p0.1 then
                jp (fun (a32 : (List TFromLabelTo) × (List (List UInt8 × Int)) × (List (List (Int)))) =>
                  some (Stp.next (IntKind.wrap .i64 (a28.1 + 1), a32.1, a32.2.1, a32.2.2)))
                  fun k34 =>
                  (m_graph_Step p0 x18 a28.1).bind fun x35 =>
                  if 0 < ((x35.1).length : Int) then
                    jp (fun (a37 : (List TFromLabelTo) × (List (List UInt8 × Int)) × (List (List (Int)))) =>
                      k34 (a37.1, a37.2.1, a37.2.2))
                      fun k39 =>
                      (m_subset_key x35.1).bind fun x40 =>
                      jp (fun (a42 : Int × (List (List UInt8 × Int)) × (List (List (Int)))) =>
                        if fits 24 ((a28.2.1 : List TFromLabelTo).length + ([(a12.2.1, a28.1, a42.1)]).length) then
                          k39 (a28.2.1 ++ [(a12.2.1, a28.1, a42.1)], a42.2.1, a42.2.2)
                        else none)
                        fun k44 =>
                        if (!((mlook x40 a28.2.2.1).isSome)) = true then
                          (m_subset_key x35.1).bind fun x47 =>
                          if fits 24 ((a28.2.2.2 : List (List (Int))).length + ([x35.1]).length) then
                            k44 ((((a28.2.2.2).length : Nat) : Int), mputN x47 (((a28.2.2.2).length : Nat) : Int) a28.2.2.1, a28.2.2.2 ++ [x35.1])
                          else none
                        else
                          k44 ((mlook x40 a28.2.2.1).getD 0, a28.2.2.1, a28.2.2.2)
                  else
                    k34 (a28.2.1, a28.2.2.1, a28.2.2.2)
              else
                some (Stp.exit (a28.2.1, a28.2.2.1, a28.2.2.2))) (0, a12.1, a12.2.2.1, a12.2.2.2)).bind fun a51 =>
          k22 (a51.1, a51.2.1, a51.2.2)
      else
        some (Stp.exit (Ou.go (a12.1, a12.2.2.2)))) (([] : List TFromLabelTo), 0, mputN x3 0 ([] : List (List UInt8 × Int)), [x6])) (fun a54 =>
      some ((p0.1, (((a54.2).length : Nat) : Int), a54.1), a54.2, 0)) some

noncomputable def m_subset_Build (p0 : TLabelsStatesEdges) : Option (TLabelsStatesEdges × (List (List (Int))) × Int) :=
  (m_graph_Check p0).bind fun x2 =>
  if x2 ≠ 0 then
    some ((0, 0, []), [], 1)
  else
    if p0.2.1 = 0 then
      some ((p0.1, 0, []), [], 0)
    else
      if 0 ≤ (p0.2.1 : Int) ∧ (p0.2.1 : Int) ≤ p0.2.1 ∧ (p0.2.1 : Int) * 8 ≤ 281474976710656 then
        (loopW (S := Int × (List Int)) (X := (List Int)) (fun a6 =>
            if a6.1 < (((List.replicate (p0.2.1).toNat (0 : Int)).length : Nat) : Int) then
              (idx a6.2 a6.1).bind fun x10 =>
              some (Stp.next (IntKind.wrap .i64 (a6.1 + 1), (a6.2).set (a6.1).toNat a6.1))
            else
              some (Stp.exit a6.2)) (0, List.replicate (p0.2.1).toNat (0 : Int))).bind fun a12 =>
        (m_subset_build p0 a12).bind fun x14 =>
        some (x14.1, x14.2.1, x14.2.2)
      else none

noncomputable def m_subset_Focus (p0 : TLabelsStatesEdges) : Option ((List (Int)) × Int × Bool × Int) :=
  (m_subset_Build p0).bind fun x1 =>
  jp (fun (a4 : Bool) =>
    if a4 = true then
      some ([], 0, false, x1.2.2)
    else
      if 0 ≤ (x1.1.2.1 : Int) ∧ (x1.1.2.1 : Int) ≤ x1.1.2.1 ∧ (x1.1.2.1 : Int) * 24 ≤ 281474976710656 then
        lpO (loopW (S := Int × Int × (List (List (Int)))) (X := Ou (Unit) ((List (Int)) × Int × Bool × Int)) (fun a9 =>
            if a9.1 < x1.1.2.1 then
              (idx x1.2.1 a9.1).bind fun x13 =>
              if ((x13).length : Int) = 1 then
                (idx a9.2.2 a9.1).bind fun x15 =>
                (idx a9.2.2 a9.1).bind fun x17 =>
                (idx x1.2.1 a9.1).bind fun x19 =>
                (idx x19 0).bind fun x21 =>
                some (Stp.exit (Ou.ret (x17, x21, true, 0)))
              else
                (loopW (S := Int × Int × (List (List (Int)))) (X := (List (List (Int))) × Int) (fun a23 =>
                    if a23.2.1 < ((x1.1.2.2).length : Int) then
                      jp (fun (a27 : Int × (List (List (Int)))) =>
                        some (Stp.next (a27.1, IntKind.wrap .i64 (a23.2.1 + 1), a27.2)))
                        fun k29 =>
                        (idx x1.1.2.2 a23.2.1).bind fun x30 =>
                        jp (fun (a33 : Bool) =>
                          if a33 = true then
                            (idx a23.2.2 a9.1).bind fun x360401 =>
                            (idx a23.2.2 a9.1).bind fun x360501 =>
                            (m_slices_Clone_Lint_int x360501).bind fun x360601 =>
                            if fits 8 ((x360601 : List Int).length + ([x30.2.1]).length) then
                              (idx a23.2.2 a23.1).bind fun x361101 =>
                              k29 (IntKind.wrap .i64 (a23.1 + 1), (a23.2.2).set (a23.1).toNat (x360601 ++ [x30.2.1]))
                            else none
                          else
                            k29 (a23.1, a23.2.2))
                          fun k35 =>
                          if x30.1 = a9.1 then
                            k35 (decide (x30.2.2 = a23.1))
                          else
                            k35 false
                    else
                      some (Stp.exit (a23.2.2, a23.1))) (a9.2.1, 0, a9.2.2)).bind fun a38 =>
                some (Stp.next (IntKind.wrap .i64 (a9.1 + 1), a38.2, a38.1))
            else
              some (Stp.exit (Ou.go ()))) (0, 1, List.replicate (x1.1.2.1).toNat ([] : List (Int)))) (fun a40 =>
            some ([], 0, false, 0)) some
      else none)
    fun k6 =>
    if x1.2.2 ≠ 0 then
      k6 true
    else
      k6 (decide (x1.1.2.1 = 0))

noncomputable def m_ref12_Same (p0 : List (Int)) (p1 : List (Int)) : Option (Bool) :=
  if ((p0).length : Int) ≠ ((p1).length : Int) then
    some false
  else
    lpO (loopW (S := Int) (X := Ou (Unit) (Bool)) (fun a1 =>
        if a1 < ((p0).length : Int) then
          (idx p0 a1).bind fun x5 =>
          (idx p1 a1).bind fun x7 =>
          if x5 ≠ x7 then
            some (Stp.exit (Ou.ret false))
          else
            some (Stp.next (IntKind.wrap .i64 (a1 + 1)))
        else
          some (Stp.exit (Ou.go ()))) 0) (fun a9 =>
        some true) some

noncomputable def m_ref12_SameSets (p0 : List (List (Int))) (p1 : List (List (Int))) : Option (Bool) :=
  if ((p0).length : Int) ≠ ((p1).length : Int) then
    some false
  else
    lpO (loopW (S := Int) (X := Ou (Unit) (Bool)) (fun a1 =>
        if a1 < ((p0).length : Int) then
          (idx p0 a1).bind fun x5 =>
          (idx p1 a1).bind fun x7 =>
          (m_ref12_Same x5 x7).bind fun x9 =>
          if (!x9) = true then
            some (Stp.exit (Ou.ret false))
          else
            some (Stp.next (IntKind.wrap .i64 (a1 + 1)))
        else
          some (Stp.exit (Ou.go ()))) 0) (fun a11 =>
        some true) some

noncomputable def m_law12_even  : Option (TLabelsStatesEdges) :=
  some (2, 2, [(0, 0, 1), (0, 1, 0), (1, 0, 0)])

noncomputable def m_subset_Count (p0 : TLabelsStatesEdges) (p1 : Int) : Option (TNegMag × Int) :=
  (m_graph_Check p0).bind fun x2 =>
  if x2 ≠ 0 then
    some ((false, ([] : List UInt8)), 1)
  else
    jp (fun (a4 : Bool) =>
      if a4 = true then
        some ((false, ([] : List UInt8)), 2)
      else
        (m_subset_Build p0).bind fun x7 =>
        jp (fun (a10 : Bool) =>
          if a10 = true then
            some ((false, ([] : List UInt8)), x7.2.2)
          else
            if 0 ≤ (x7.1.2.1 : Int) ∧ (x7.1.2.1 : Int) ≤ x7.1.2.1 ∧ (x7.1.2.1 : Int) * 24 ≤ 281474976710656 then
              (m_integer_Of 1).bind fun x15 =>
              (idx (List.replicate (x7.1.2.1).toNat ((false, ([] : List UInt8)) : TNegMag)) 0).bind fun x17 =>
              (loopW (S := (List TNegMag) × Int) (X := (List TNegMag)) (fun a19 =>
                  if a19.2 < p1 then
                    if 0 ≤ (x7.1.2.1 : Int) ∧ (x7.1.2.1 : Int) ≤ x7.1.2.1 ∧ (x7.1.2.1 : Int) * 24 ≤ 281474976710656 then
                      (loopW (S := Int × (List TNegMag)) (X := (List TNegMag)) (fun a25 =>
                          if a25.1 < ((x7.1.2.2).length : Int) then
                            (idx x7.1.2.2 a25.1).bind fun x29 =>
                            (idx a25.2 x29.2.2).bind fun x32 =>
                            (idx a25.2 x29.2.2).bind fun x34 =>
                            (idx a19.1 x29.1).bind fun x36 =>
                            (m_integer_Add x34 x36).bind fun x38 =>
                            (idx a25.2 x29.2.2).bind fun x40 =>
                            some (Stp.next (IntKind.wrap .i64 (a25.1 + 1), (a25.2).set (x29.2.2).toNat x38))
                          else
                            some (Stp.exit a25.2)) (0, List.replicate (x7.1.2.1).toNat ((false, ([] : List UInt8)) : TNegMag))).bind fun a42 =>
                      some (Stp.next (a42, IntKind.wrap .i64 (a19.2 + 1)))
                    else none
                  else
                    some (Stp.exit a19.1)) ((List.replicate (x7.1.2.1).toNat ((false, ([] : List UInt8)) : TNegMag)).set (0 : Int).toNat x15, 0)).bind fun a44 =>
              (loopW (S := Int × Bool × (List UInt8)) (X := Bool × (List UInt8)) (fun a47 =>
                  if a47.1 < ((a44).length : Int) then
                    (idx a44 a47.1).bind fun x51 =>
                    (m_integer_Add (a47.2.1, a47.2.2) x51).bind fun x54 =>
                    some (Stp.next (IntKind.wrap .i64 (a47.1 + 1), x54.1, x54.2))
                  else
                    some (Stp.exit (a47.2.1, a47.2.2))) (0, false, ([] : List UInt8))).bind fun a56 =>
              some ((a56.1, a56.2), 0)
            else none)
          fun k12 =>
          if x7.2.2 ≠ 0 then
            k12 true
          else
            k12 (decide (x7.1.2.1 = 0)))
      fun k6 =>
      if p1 < 0 then
        k6 true
      else
        k6 (decide (4096 < p1))

noncomputable def m_ref01_mag (p0 : Int) : Option ((List UInt8)) :=
  if p0 < 256 then
    if p0 = 0 then
      some ([] : List UInt8)
    else
      some ([IntKind.wrap .u8 p0].map fun n => UInt8.ofNat n.toNat)
  else
    none

noncomputable def m_ref01_Of (p0 : Int) : Option (TNegMag) :=
  if 0 ≤ p0 then
    (m_ref01_mag p0).bind fun x2 =>
    some (false, x2)
  else
    if p0 = (IntKind.wrap .i64 (0 - p0)) then
      some (true, [128, 0, 0, 0, 0, 0, 0, 0])
    else
      (m_ref01_mag (IntKind.wrap .i64 (0 - p0))).bind fun x4 =>
      some (true, x4)

noncomputable def m_law12_awakeG  : Option (Bool) :=
  (m_law12_even).bind fun x1 =>
  (m_subset_Build x1).bind fun x3 =>
  (m_law12_even).bind fun x6 =>
  (m_subset_Focus x6).bind fun x8 =>
  (m_law12_even).bind fun x10 =>
  (m_subset_Count x10 3).bind fun x12 =>
  jp (fun (a15 : Bool) =>
    jp (fun (a18 : Bool) =>
      some a18)
      fun k20 =>
      if a15 = true then
        if x3.1.2.1 = 3 then
          if ((x3.1.2.2).length : Int) = 5 then
            (m_ref12_SameSets x3.2.1 [[0, 1], [0], [1]]).bind fun x21 =>
            k20 x21
          else
            k20 false
        else
          k20 false
      else
        k20 false)
    fun k17 =>
    if (max (max x3.2.2 x8.2.2.2) x12.2) = 0 then
      if x8.2.2.1 = true then
        if x8.2.1 = 0 then
          (m_ref12_Same x8.1 [1]).bind fun x26 =>
          if x26 = true then
            (m_ref01_Of 7).bind fun x28 =>
            k17 (decide (x12.1 = x28))
          else
            k17 false
        else
          k17 false
      else
        k17 false
    else
      k17 false

end Go.AW

/- Arrays of arrays in lockstep: an owned array in a place of an owned array of frozen ones (a place that is filled later). -/
namespace Go.AW
open Go

theorem SR.frzH {w : World} {μ : Mu} {H D H' : Heap} (n : Nat) (h : SR w μ H) (hD : ∀ id x, hget D id = some x → hget H id = some x ∧ hget H' id = none)
    (hs : ∀ id ver o, hget H' id = some (ver, o) → hget H id = some (ver, o) ∨ ∃ k e cs, hget H id = some (ver, .arr k e cs) ∧ o = .arr k e (cs.map (frz n D))) : SR w (μ.cut H') H' where
  ok := fun id ver b hb => h.ok id ver b (Mu.cut_some hb)
  has := fun id ver o ho => by
    rcases hs id ver o ho with h1 | ⟨k, e, cs, h1, rfl⟩
    · obtain ⟨l, hl, hor⟩ := h.has id ver o h1
      exact ⟨l, by simp [Mu.cut, ho, hl], hor.evo (Evo.cut w μ H') h.ok (fun _ _ => rfl) (fun _ _ _ _ _ _ _ _ => rfl)⟩
    · obtain ⟨l, hl, hor⟩ := h.has id ver _ h1
      refine ⟨l, by simp [Mu.cut, ho, hl], ?_⟩
      cases l with
      | none =>
        have : cs = [] := hor
        subst this
        exact (rfl : ([] : List HV).map (frz n D) = [])
      | some b =>
        obtain ⟨h0, cur, vs, rest, hrow, hcl, hrl⟩ := hor
        exact ⟨ones_frz h0, cur, vs, rest, hrow, hcl, RepL.mapF (fun c x _ => frz_rep h hD n c x) hrl⟩
  only := fun id x hx => by
    simp only [Mu.cut] at hx
    split at hx
    · rename_i hi; exact Option.isSome_iff_exists.1 hi
    · cases hx
  inj := fun i j v u b hi hj => h.inj i j v u b (Mu.cut_some hi) (Mu.cut_some hj)
  held := fun b hb => ⟨(h.held b hb).1, fun ⟨id, ver, hl⟩ => (h.held b hb).2 ⟨id, ver, Mu.cut_some hl⟩⟩

def leO (n : Nat) (D : Heap) (l : Heap) : Heap → Prop
  | [] => True
  | (i, v, o) :: l' => (hget l i = some (v, o) ∨ ∃ k e cs, hget l i = some (v, .arr k e cs) ∧ o = .arr k e (cs.map (frz n D))) ∧ leO n D l l'
theorem leO_get {n : Nat} {D l : Heap} : ∀ {l' : Heap}, leO n D l l' → ∀ t v o, hget l' t = some (v, o) → hget l t = some (v, o) ∨ ∃ k e cs, hget l t = some (v, .arr k e cs) ∧ o = .arr k e (cs.map (frz n D))
  | [], _, _, _, _, h => by cases h
  | (i, g, u) :: l', h, t, v, o, ht => by
    simp only [hget] at ht
    split at ht
    · rename_i e; subst e; cases ht; exact h.1
    · exact leO_get h.2 t v o ht

theorem to_fill {s : AS} {G : AS → Prop} (n : Nat) (D : Heap) (s' : AS) (h1 : leF n D s.slots s'.slots) (h2 : leO n D s.heap s'.heap) (h3 : leH s.heap D) (h4 : noneH s'.heap D) (h : G s') : s.to G := by
  intro ro N B μ a w hs
  have hD : ∀ id x, hget D id = some x → hget s.heap id = some x ∧ hget s'.heap id = none := fun id x hx => ⟨leH_get h3 id x hx, noneH_get h4 id x hx⟩
  refine ⟨μ.cut s'.heap, s', h, ⟨hs.size, hs.sr.frzH n hD (leO_get h2), fun t hv ht => ?_, hs.marks.evo (Evo.cut w μ s'.heap), hs.ro.evo (Evo.cut w μ s'.heap)⟩, Evo.cut w μ s'.heap⟩
  obtain ⟨g, hg, rfl⟩ := leF_get h1 t hv ht
  exact ⟨(hs.slot t g hg).1, frz_rep hs.sr hD n g _ (hs.slot t g hg).2⟩

theorem fill_obj {α : Type} {c : EncL α} {D : Heap} {C ver n i : Nat} {e e2 : TypeId} {L : List (List α)} {m : List α} (hg : hget D C = some (ver, .arr c.k e2 (c.E m))) (hn : n = m.length) (hc : ∀ x, (c.C x).map (frz 1 D) = c.C x) :
    (AObj.arr (eSl c).k e ((eSl c).E (L.set i m))) = .arr (eSl c).k e ((((eSl c).E L).set i (.ar C ver c.k 0 n)).map (frz 2 D)) := by
  congr 1
  show (L.set i m).map (slE c) = ((L.map (slE c)).set i _).map (frz 2 D)
  rw [List.map_set, List.map_set, hn, frz_slE c hg fun x _ => hc x, List.map_map]
  congr 1

theorem LeL.ones : ∀ {aa bs : List HV} (_ : LeL aa bs), ones aa → ones bs
  | _, _, .nil, h => h
  | _, _, .cons h h', h0 => fun c hc => by
    rcases List.mem_cons.1 hc with rfl | hc
    · have := h0 _ (List.mem_cons_self ..)
      cases h with
      | refl => exact this
      | nil => rfl
      | empty => rfl
    · exact LeL.ones h' (fun d hd => h0 d (List.mem_cons_of_mem _ hd)) c hc

theorem to_cells {s : AS} {G : AS → Prop} (id ver : Nat) {k : Nat} {e : TypeId} {cs ds : List HV} (hg : hget s.heap id = some (ver, .arr k e cs)) (hl : LeL cs ds) (h : G ⟨s.slots, (id, ver, .arr k e ds) :: s.heap⟩) : s.to G := by
  intro ro N B μ a w hs
  have h1 := hs.sr.reobj (o' := .arr k e ds) hg fun l _ hor => by
    cases l with
    | none =>
      have : cs = [] := hor
      subst this
      cases hl
      exact hor
    | some b =>
      obtain ⟨h0, cur, vs, rest, hrow, hcl, hrl⟩ := hor
      exact ⟨hl.ones h0, cur, vs, rest, hrow, hcl, hl.rep hrl⟩
  refine ⟨μ, _, h, ⟨hs.size, h1.le fun j x => ?_, hs.slot, hs.marks, hs.ro⟩, Evo.refl w μ⟩
  simp only [hget, hget_hset]

section
variable {P : Program} {ro : Option Nat} {N : Nat} {all : Array Oper} {s : AS} {rest : List Oper} {o : Oper} {K : AS → Prop} {fid : Nat} {sl : List (Nat × HV)} {H : Heap}

theorem AOps.to {is : List Nat} (h : s.to (AOps P ro N all is K)) : AOps P ro N all is K s := fun w0 μ0 μ a w Q hs hE hK => by
  obtain ⟨μ1, t, ht, hs1, E1⟩ := h ro N w0.heap.size μ a w hs
  exact ht w0 μ0 μ1 a w Q hs1 (hE.trans E1) hK
theorem b_to {l : List Oper} (h : s.to (bops P ro N all l K)) : bops P ro N all l K s := fun hok i hi => AOps.to (to_mono h fun t ht => ht hok i hi)

theorem leL_nils {α : Type} (c : EncL α) (n : Nat) : LeL ((encM fun _ : Unit => HV.v (.slice none 0 0)).E (List.replicate n ())) ((eSl c).E (List.replicate n ([] : List α))) := by
  show LeL ((List.replicate n ()).map _) ((List.replicate n ([] : List α)).map (slE c))
  rw [List.map_replicate, List.map_replicate]
  have : slE c [] = HV.sl c.k 0 [] := by show HV.sl c.k 0 (c.E []) = _; rw [c.nil]
  rw [this]
  induction n with
  | zero => exact .nil
  | succ n ih => exact .cons (.nil c.k) ih

theorem o_makeN {α : Type} (c : EncL α) {d : Nat} {t e : TypeId} {a b : Nat} {z : Value} {x y : Operand} {l m : Int} {Te : TyI} (id : Nat) (h0 : (o.dst, o.op) = (some d, .makeSlice t x y)) (hid : fid * 1000 + d = id) (hT : ty P t = some ⟨.slice e, a, b, z⟩) (hx : (⟨sl, H⟩ : AS).ev x = some (.int .i64 l)) (hy : (⟨sl, H⟩ : AS).ev y = some (.int .i64 m)) (hTe : ty P e = some Te)
    (hz : zcells Te.zero = some [.v (.slice none 0 0)]) (h1 : Te.size = 1) (h2 : 0 ≤ l ∧ l ≤ m ∧ m * Te.bytes ≤ 281474976710656)
    (k : ∀ ver, bops P ro N all rest K ⟨(d, .ar id ver (eSl c).k 0 (List.replicate l.toNat ([] : List α)).length) :: sl, (id, ver, .arr (eSl c).k e ((eSl c).E (List.replicate l.toNat []))) :: H⟩) : aop P fid [] o (fun s' => bops P ro N all rest K s') ⟨sl, H⟩ := by
  refine o_makeE (encM fun _ : Unit => HV.v (.slice none 0 0)) () id h0 hid hT hx hy hTe hz h1 h2 fun ver => ?_
  refine b_to (to_cells (k := (eSl c).k) (e := e) (cs := (encM fun _ : Unit => HV.v (.slice none 0 0)).E (List.replicate l.toNat ())) (ds := (eSl c).E (List.replicate l.toNat [])) id ver (by simp only [hget, if_pos]; rfl) (leL_nils c l.toNat) ?_)
  refine bops_le ?_ (k ver)
  refine ⟨fun t hv ht => ?_, fun j x hj => ?_⟩
  · simp only [sget] at ht ⊢
    split at ht
    · rename_i e'
      rw [if_pos e']
      cases ht
      simp only [List.length_replicate]
      rfl
    · rename_i e'
      rw [if_neg e']
      exact ht
  · simp only [hget] at hj ⊢
    split at hj
    · rename_i e'
      rw [if_pos e']
      exact hj
    · rename_i e'
      rw [if_neg e', if_neg e']
      exact hj

theorem splice_one {xs : List HV} {i : Nat} (v : HV) (h : i < xs.length) : splice xs i [v] = xs.set i v := by
  rw [splice_eq (by show i + 1 ≤ _; omega), List.set_eq_take_append_cons_drop, if_pos h]
  simp

theorem o_storeH {α : Type} (c : EncL α) {t : TypeId} {x y : Operand} {id ver : Nat} {e : TypeId} {hv : HV} {T : TyI} {L : List (List α)} {j : Int} (h0 : (o.dst, o.op) = (none, .store t x y)) (hx : (⟨sl, H⟩ : AS).ev x = some (.ptr id ver (j.toNat * (eSl c).k))) (hy : (⟨sl, H⟩ : AS).ev y = some hv) (hT : ty P t = some T) (hc : hv.cells? = some [hv])
    (hg : hget H id = some (ver, .arr (eSl c).k e ((eSl c).E L))) (h1 : T.size = 1) (hj : 0 ≤ j ∧ j < L.length) (kk : bops P ro N all rest K ⟨sl, (id, ver, .arr (eSl c).k e (((eSl c).E L).set j.toNat hv)) :: H⟩) : aop P 0 [] o (fun s' => bops P ro N all rest K s') ⟨sl, H⟩ := by
  have hl : ((eSl c).E L).length = L.length := by show (L.map (slE c)).length = _; rw [List.length_map]
  have hlt : j.toNat < ((eSl c).E L).length := by rw [hl]; omega
  have e1 : (eSl c).k = 1 := rfl
  refine o_store_z (s := ⟨sl, H⟩) (cs := [hv]) (zs := ((eSl c).E L).set j.toNat hv) h0 hx hy hT hc hg h1 ?_ ?_ kk
  · rw [e1, Nat.mul_one]
    exact Nat.ble_eq_true_of_le (by show j.toNat + 1 ≤ _; omega)
  · rw [e1, Nat.mul_one]
    exact splice_one hv hlt

end
end Go.AW
