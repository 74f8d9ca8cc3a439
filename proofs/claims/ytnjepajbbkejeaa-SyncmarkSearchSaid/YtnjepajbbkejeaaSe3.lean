import Derived.Test.YtnjepajbbkejeaaSe2
import Derived.DeepKeys3
import Derived.Lib.Bytealg
import Derived.Lib.IndexBytes
import Derived.Lib.Slices
import Derived.Lib.Strings
import Derived.Lib.Walk
import Derived.Shelf.Slices.CompactI
import Derived.Shelf.SortM.Plain
import Derived.Shelf.SortM.SortNone
import Derived.Shelf.Strings.Shaped
import Derived.Test.YtnjepajbbkejeaaChecked
import Derived.Test.YtnjepajbbkejeaaProg
import Derived.WideKeyMaps
namespace Go.AW
open Go Go.Proofs
theorem ty0 : ty Try.prog 0 = some { desc := TypeDesc.tuple #[], size := 1, bytes := 0, zero := Value.tuple #[] } := by kernel_rfl
theorem ty1 : ty Try.prog 1 = some { desc := TypeDesc.func #[] #[] false, size := 1, bytes := 8, zero := Value.nilFunc } := by kernel_rfl
theorem ty2 : ty Try.prog 2 = some { desc := TypeDesc.int IntKind.i64, size := 1, bytes := 8, zero := Value.int IntKind.i64 (0) } := by kernel_rfl
theorem ty3 : ty Try.prog 3 = some { desc := TypeDesc.int IntKind.i64, size := 1, bytes := 8, zero := Value.int IntKind.i64 (0) } := by kernel_rfl
theorem ty4 : ty Try.prog 4 = some { desc := TypeDesc.bool, size := 1, bytes := 1, zero := Value.bool false } := by kernel_rfl
theorem ty5 : ty Try.prog 5 = some { desc := TypeDesc.int IntKind.u8, size := 1, bytes := 1, zero := Value.int IntKind.u8 (0) } := by kernel_rfl
theorem ty6 : ty Try.prog 6 = some { desc := TypeDesc.int IntKind.u8, size := 1, bytes := 1, zero := Value.int IntKind.u8 (0) } := by kernel_rfl
theorem ty9 : ty Try.prog 9 = some { desc := TypeDesc.string, size := 1, bytes := 16, zero := Value.string { data := #[] } } := by kernel_rfl
theorem ty10 : ty Try.prog 10 = some { desc := TypeDesc.string, size := 1, bytes := 16, zero := Value.string { data := #[] } } := by kernel_rfl
theorem ty11 : ty Try.prog 11 = some { desc := TypeDesc.string, size := 1, bytes := 16, zero := Value.string { data := #[] } } := by kernel_rfl
theorem ty12 : ty Try.prog 12 = some { desc := TypeDesc.int IntKind.u64, size := 1, bytes := 8, zero := Value.int IntKind.u64 (0) } := by kernel_rfl
theorem ty13 : ty Try.prog 13 = some { desc := TypeDesc.struct { toList := [{ name := "msg", type := 9, offset := 0, embedded := false, tag := "", pkgPath := "runtime", byteOffset := 0 }, { name := "addr", type := 12, offset := 1, embedded := false, tag := "", pkgPath := "runtime", byteOffset := 16 }] }, size := 2, bytes := 24, zero := Value.agg #[Value.string { data := #[] }, Value.int IntKind.u64 (0)] } := by kernel_rfl
theorem ty14 : ty Try.prog 14 = some { desc := TypeDesc.struct { toList := [{ name := "msg", type := 9, offset := 0, embedded := false, tag := "", pkgPath := "runtime", byteOffset := 0 }, { name := "addr", type := 12, offset := 1, embedded := false, tag := "", pkgPath := "runtime", byteOffset := 16 }] }, size := 2, bytes := 24, zero := Value.agg #[Value.string { data := #[] }, Value.int IntKind.u64 (0)] } := by kernel_rfl
theorem ty15 : ty Try.prog 15 = some { desc := TypeDesc.pointer 162, size := 1, bytes := 8, zero := Value.pointer none } := by kernel_rfl
theorem ty16 : ty Try.prog 16 = some { desc := TypeDesc.pointer 165, size := 1, bytes := 8, zero := Value.pointer none } := by kernel_rfl
theorem ty17 : ty Try.prog 17 = some { desc := TypeDesc.pointer 172, size := 1, bytes := 8, zero := Value.pointer none } := by kernel_rfl
theorem ty18 : ty Try.prog 18 = some { desc := TypeDesc.struct { toList := [{ name := "typ", type := 17, offset := 0, embedded := false, tag := "", pkgPath := "internal/runtime/maps", byteOffset := 0 }] }, size := 1, bytes := 8, zero := Value.agg #[Value.pointer none] } := by kernel_rfl
theorem ty19 : ty Try.prog 19 = some { desc := TypeDesc.struct { toList := [{ name := "typ", type := 17, offset := 0, embedded := false, tag := "", pkgPath := "internal/runtime/maps", byteOffset := 0 }] }, size := 1, bytes := 8, zero := Value.agg #[Value.pointer none] } := by kernel_rfl
theorem ty20 : ty Try.prog 20 = some { desc := TypeDesc.interface #[], size := 1, bytes := 16, zero := Value.nilIface } := by kernel_rfl
theorem ty21 : ty Try.prog 21 = some { desc := TypeDesc.int IntKind.i32, size := 1, bytes := 4, zero := Value.int IntKind.i32 (0) } := by kernel_rfl
theorem ty22 : ty Try.prog 22 = some { desc := TypeDesc.slice 53, size := 1, bytes := 24, zero := Value.slice none 0 0 } := by kernel_rfl
theorem ty23 : ty Try.prog 23 = some { desc := TypeDesc.struct { toList := [{ name := "Labels", type := 3, offset := 0, embedded := false, tag := "", pkgPath := "", byteOffset := 0 }, { name := "States", type := 3, offset := 1, embedded := false, tag := "", pkgPath := "", byteOffset := 8 }, { name := "Edges", type := 22, offset := 2, embedded := false, tag := "", pkgPath := "", byteOffset := 16 }] }, size := 3, bytes := 40, zero := Value.agg #[Value.int IntKind.i64 (0), Value.int IntKind.i64 (0), Value.slice none 0 0] } := by kernel_rfl
theorem ty24 : ty Try.prog 24 = some { desc := TypeDesc.struct { toList := [{ name := "Labels", type := 3, offset := 0, embedded := false, tag := "", pkgPath := "", byteOffset := 0 }, { name := "States", type := 3, offset := 1, embedded := false, tag := "", pkgPath := "", byteOffset := 8 }, { name := "Edges", type := 22, offset := 2, embedded := false, tag := "", pkgPath := "", byteOffset := 16 }] }, size := 3, bytes := 40, zero := Value.agg #[Value.int IntKind.i64 (0), Value.int IntKind.i64 (0), Value.slice none 0 0] } := by kernel_rfl
theorem ty25 : ty Try.prog 25 = some { desc := TypeDesc.func #[24] #[4] false, size := 1, bytes := 8, zero := Value.nilFunc } := by kernel_rfl
theorem ty26 : ty Try.prog 26 = some { desc := TypeDesc.func #[9] #[4] false, size := 1, bytes := 8, zero := Value.nilFunc } := by kernel_rfl
theorem ty27 : ty Try.prog 27 = some { desc := TypeDesc.func #[] #[4] false, size := 1, bytes := 8, zero := Value.nilFunc } := by kernel_rfl
theorem ty28 : ty Try.prog 28 = some { desc := TypeDesc.int IntKind.i64, size := 1, bytes := 8, zero := Value.int IntKind.i64 (0) } := by kernel_rfl
theorem ty29 : ty Try.prog 29 = some { desc := TypeDesc.tuple #[4, 28], size := 1, bytes := 0, zero := Value.tuple #[Value.bool false, Value.int IntKind.i64 (0)] } := by kernel_rfl
theorem ty30 : ty Try.prog 30 = some { desc := TypeDesc.func #[24, 9, 3] #[4, 28] false, size := 1, bytes := 8, zero := Value.nilFunc } := by kernel_rfl
theorem ty31 : ty Try.prog 31 = some { desc := TypeDesc.tuple #[9, 4, 28], size := 1, bytes := 0, zero := Value.tuple { toList := [Value.string { data := #[] }, Value.bool false, Value.int IntKind.i64 (0)] } } := by kernel_rfl
theorem ty32 : ty Try.prog 32 = some { desc := TypeDesc.func #[24, 9, 3] #[9, 4, 28] false, size := 1, bytes := 8, zero := Value.nilFunc } := by kernel_rfl
theorem ty33 : ty Try.prog 33 = some { desc := TypeDesc.func #[24, 9] #[4, 28] false, size := 1, bytes := 8, zero := Value.nilFunc } := by kernel_rfl
theorem ty34 : ty Try.prog 34 = some { desc := TypeDesc.func #[35, 35] #[4] false, size := 1, bytes := 8, zero := Value.nilFunc } := by kernel_rfl
theorem ty35 : ty Try.prog 35 = some { desc := TypeDesc.slice 3, size := 1, bytes := 24, zero := Value.slice none 0 0 } := by kernel_rfl
theorem ty36 : ty Try.prog 36 = some { desc := TypeDesc.func #[9, 9] #[35] false, size := 1, bytes := 8, zero := Value.nilFunc } := by kernel_rfl
theorem ty37 : ty Try.prog 37 = some { desc := TypeDesc.func #[9] #[35] false, size := 1, bytes := 8, zero := Value.nilFunc } := by kernel_rfl
theorem ty38 : ty Try.prog 38 = some { desc := TypeDesc.func #[24, 9, 3, 9] #[4] false, size := 1, bytes := 8, zero := Value.nilFunc } := by kernel_rfl
theorem ty39 : ty Try.prog 39 = some { desc := TypeDesc.func #[24, 9] #[4] false, size := 1, bytes := 8, zero := Value.nilFunc } := by kernel_rfl
theorem ty40 : ty Try.prog 40 = some { desc := TypeDesc.func #[3, 9] #[28] false, size := 1, bytes := 8, zero := Value.nilFunc } := by kernel_rfl
theorem ty41 : ty Try.prog 41 = some { desc := TypeDesc.func #[9, 9] #[4] false, size := 1, bytes := 8, zero := Value.nilFunc } := by kernel_rfl
theorem ty42 : ty Try.prog 42 = some { desc := TypeDesc.func #[24, 9, 9] #[4] false, size := 1, bytes := 8, zero := Value.nilFunc } := by kernel_rfl
theorem ty43 : ty Try.prog 43 = some { desc := TypeDesc.func #[35, 3] #[4] false, size := 1, bytes := 8, zero := Value.nilFunc } := by kernel_rfl
theorem ty44 : ty Try.prog 44 = some { desc := TypeDesc.func #[35] #[4] false, size := 1, bytes := 8, zero := Value.nilFunc } := by kernel_rfl
theorem ty45 : ty Try.prog 45 = some { desc := TypeDesc.func #[24] #[28] false, size := 1, bytes := 8, zero := Value.nilFunc } := by kernel_rfl
theorem ty46 : ty Try.prog 46 = some { desc := TypeDesc.tuple #[9, 28], size := 1, bytes := 0, zero := Value.tuple #[Value.string { data := #[] }, Value.int IntKind.i64 (0)] } := by kernel_rfl
theorem ty47 : ty Try.prog 47 = some { desc := TypeDesc.func #[24, 3, 3, 3] #[9, 28] false, size := 1, bytes := 8, zero := Value.nilFunc } := by kernel_rfl
theorem ty48 : ty Try.prog 48 = some { desc := TypeDesc.slice 9, size := 1, bytes := 24, zero := Value.slice none 0 0 } := by kernel_rfl
theorem ty49 : ty Try.prog 49 = some { desc := TypeDesc.tuple #[48, 28], size := 1, bytes := 0, zero := Value.tuple #[Value.slice none 0 0, Value.int IntKind.i64 (0)] } := by kernel_rfl
theorem ty50 : ty Try.prog 50 = some { desc := TypeDesc.func #[3, 3] #[48, 28] false, size := 1, bytes := 8, zero := Value.nilFunc } := by kernel_rfl
theorem ty51 : ty Try.prog 51 = some { desc := TypeDesc.func #[24, 5, 5, 5] #[4] false, size := 1, bytes := 8, zero := Value.nilFunc } := by kernel_rfl
theorem ty52 : ty Try.prog 52 = some { desc := TypeDesc.struct { toList := [{ name := "From", type := 3, offset := 0, embedded := false, tag := "", pkgPath := "", byteOffset := 0 }, { name := "Label", type := 3, offset := 1, embedded := false, tag := "", pkgPath := "", byteOffset := 8 }, { name := "To", type := 3, offset := 2, embedded := false, tag := "", pkgPath := "", byteOffset := 16 }] }, size := 3, bytes := 24, zero := Value.agg { toList := [Value.int IntKind.i64 (0), Value.int IntKind.i64 (0), Value.int IntKind.i64 (0)] } } := by kernel_rfl
theorem ty53 : ty Try.prog 53 = some { desc := TypeDesc.struct { toList := [{ name := "From", type := 3, offset := 0, embedded := false, tag := "", pkgPath := "", byteOffset := 0 }, { name := "Label", type := 3, offset := 1, embedded := false, tag := "", pkgPath := "", byteOffset := 8 }, { name := "To", type := 3, offset := 2, embedded := false, tag := "", pkgPath := "", byteOffset := 16 }] }, size := 3, bytes := 24, zero := Value.agg { toList := [Value.int IntKind.i64 (0), Value.int IntKind.i64 (0), Value.int IntKind.i64 (0)] } } := by kernel_rfl
theorem ty54 : ty Try.prog 54 = some { desc := TypeDesc.func #[24, 9, 3] #[28] false, size := 1, bytes := 8, zero := Value.nilFunc } := by kernel_rfl
theorem ty55 : ty Try.prog 55 = some { desc := TypeDesc.tuple #[9, 4], size := 1, bytes := 0, zero := Value.tuple #[Value.string { data := #[] }, Value.bool false] } := by kernel_rfl
theorem ty56 : ty Try.prog 56 = some { desc := TypeDesc.func #[24, 9, 3] #[9, 4] false, size := 1, bytes := 8, zero := Value.nilFunc } := by kernel_rfl
theorem ty57 : ty Try.prog 57 = some { desc := TypeDesc.func #[24, 9] #[28] false, size := 1, bytes := 8, zero := Value.nilFunc } := by kernel_rfl
theorem ty58 : ty Try.prog 58 = some { desc := TypeDesc.slice 60, size := 1, bytes := 24, zero := Value.slice none 0 0 } := by kernel_rfl
theorem ty59 : ty Try.prog 59 = some { desc := TypeDesc.func #[24, 9, 3] #[58] false, size := 1, bytes := 8, zero := Value.nilFunc } := by kernel_rfl
theorem ty60 : ty Try.prog 60 = some { desc := TypeDesc.slice 4, size := 1, bytes := 24, zero := Value.slice none 0 0 } := by kernel_rfl
theorem ty61 : ty Try.prog 61 = some { desc := TypeDesc.slice 35, size := 1, bytes := 24, zero := Value.slice none 0 0 } := by kernel_rfl
theorem ty62 : ty Try.prog 62 = some { desc := TypeDesc.tuple #[61, 60], size := 1, bytes := 0, zero := Value.tuple #[Value.slice none 0 0, Value.slice none 0 0] } := by kernel_rfl
theorem ty63 : ty Try.prog 63 = some { desc := TypeDesc.func #[9, 3] #[61, 60] false, size := 1, bytes := 8, zero := Value.nilFunc } := by kernel_rfl
theorem ty64 : ty Try.prog 64 = some { desc := TypeDesc.slice 5, size := 1, bytes := 24, zero := Value.slice none 0 0 } := by kernel_rfl
theorem ty65 : ty Try.prog 65 = some { desc := TypeDesc.func #[3] #[4] false, size := 1, bytes := 8, zero := Value.nilFunc } := by kernel_rfl
theorem ty66 : ty Try.prog 66 = some { desc := TypeDesc.func #[9, 5] #[3] false, size := 1, bytes := 8, zero := Value.nilFunc } := by kernel_rfl
theorem ty67 : ty Try.prog 67 = some { desc := TypeDesc.func #[24, 35, 9] #[35] false, size := 1, bytes := 8, zero := Value.nilFunc } := by kernel_rfl
theorem ty68 : ty Try.prog 68 = some { desc := TypeDesc.func #[24] #[35] false, size := 1, bytes := 8, zero := Value.nilFunc } := by kernel_rfl
theorem ty69 : ty Try.prog 69 = some { desc := TypeDesc.func #[9, 9] #[3] false, size := 1, bytes := 8, zero := Value.nilFunc } := by kernel_rfl
theorem ty70 : ty Try.prog 70 = some { desc := TypeDesc.func #[35, 3] #[3] false, size := 1, bytes := 8, zero := Value.nilFunc } := by kernel_rfl
theorem ty71 : ty Try.prog 71 = some { desc := TypeDesc.func #[3, 3] #[4] false, size := 1, bytes := 8, zero := Value.nilFunc } := by kernel_rfl
theorem ty72 : ty Try.prog 72 = some { desc := TypeDesc.func #[53, 53] #[3] false, size := 1, bytes := 8, zero := Value.nilFunc } := by kernel_rfl
theorem ty73 : ty Try.prog 73 = some { desc := TypeDesc.func #[26] #[] false, size := 1, bytes := 8, zero := Value.nilFunc } := by kernel_rfl
theorem ty74 : ty Try.prog 74 = some { desc := TypeDesc.func #[26] #[] false, size := 1, bytes := 8, zero := Value.nilFunc } := by kernel_rfl
theorem ty75 : ty Try.prog 75 = some { desc := TypeDesc.func #[3, 3, 3] #[74] false, size := 1, bytes := 8, zero := Value.nilFunc } := by kernel_rfl
theorem ty76 : ty Try.prog 76 = some { desc := TypeDesc.func #[9, 3] #[9] false, size := 1, bytes := 8, zero := Value.nilFunc } := by kernel_rfl
theorem ty77 : ty Try.prog 77 = some { desc := TypeDesc.pointer 90, size := 1, bytes := 8, zero := Value.pointer none } := by kernel_rfl
theorem ty78 : ty Try.prog 78 = some { desc := TypeDesc.func #[24, 9] #[77] false, size := 1, bytes := 8, zero := Value.nilFunc } := by kernel_rfl
theorem ty79 : ty Try.prog 79 = some { desc := TypeDesc.slice 81, size := 1, bytes := 24, zero := Value.slice none 0 0 } := by kernel_rfl
theorem ty81 : ty Try.prog 81 = some { desc := TypeDesc.struct { toList := [{ name := "state", type := 3, offset := 0, embedded := false, tag := "", pkgPath := "groove/syncmark", byteOffset := 0 }, { name := "read", type := 3, offset := 1, embedded := false, tag := "", pkgPath := "groove/syncmark", byteOffset := 8 }, { name := "bad", type := 4, offset := 2, embedded := false, tag := "", pkgPath := "groove/syncmark", byteOffset := 16 }, { name := "left", type := 3, offset := 3, embedded := false, tag := "", pkgPath := "groove/syncmark", byteOffset := 24 }] }, size := 4, bytes := 32, zero := Value.agg { toList := [Value.int IntKind.i64 (0), Value.int IntKind.i64 (0), Value.bool false, Value.int IntKind.i64 (0)] } } := by kernel_rfl
theorem ty82 : ty Try.prog 82 = some { desc := TypeDesc.func #[81] #[4] false, size := 1, bytes := 8, zero := Value.nilFunc } := by kernel_rfl
theorem ty83 : ty Try.prog 83 = some { desc := TypeDesc.pointer 85, size := 1, bytes := 8, zero := Value.pointer none } := by kernel_rfl
theorem ty84 : ty Try.prog 84 = some { desc := TypeDesc.struct { toList := [{ name := "addr", type := 83, offset := 0, embedded := false, tag := "", pkgPath := "strings", byteOffset := 0 }, { name := "buf", type := 64, offset := 1, embedded := false, tag := "", pkgPath := "strings", byteOffset := 8 }] }, size := 2, bytes := 32, zero := Value.agg #[Value.pointer none, Value.slice none 0 0] } := by kernel_rfl
theorem ty85 : ty Try.prog 85 = some { desc := TypeDesc.struct { toList := [{ name := "addr", type := 83, offset := 0, embedded := false, tag := "", pkgPath := "strings", byteOffset := 0 }, { name := "buf", type := 64, offset := 1, embedded := false, tag := "", pkgPath := "strings", byteOffset := 8 }] }, size := 2, bytes := 32, zero := Value.agg #[Value.pointer none, Value.slice none 0 0] } := by kernel_rfl
theorem ty86 : ty Try.prog 86 = some { desc := TypeDesc.map 81 4, size := 1, bytes := 8, zero := Value.map none } := by kernel_rfl
theorem ty87 : ty Try.prog 87 = some { desc := TypeDesc.slice 114, size := 1, bytes := 24, zero := Value.slice none 0 0 } := by kernel_rfl
theorem ty88 : ty Try.prog 88 = some { desc := TypeDesc.slice 22, size := 1, bytes := 24, zero := Value.slice none 0 0 } := by kernel_rfl
theorem ty90 : ty Try.prog 90 = some { desc := TypeDesc.struct { toList := [{ name := "g", type := 24, offset := 0, embedded := false, tag := "", pkgPath := "groove/syncmark", byteOffset := 0 }, { name := "mark", type := 9, offset := 3, embedded := false, tag := "", pkgPath := "groove/syncmark", byteOffset := 40 }, { name := "table", type := 87, offset := 4, embedded := false, tag := "", pkgPath := "groove/syncmark", byteOffset := 56 }, { name := "next", type := 88, offset := 5, embedded := false, tag := "", pkgPath := "groove/syncmark", byteOffset := 80 }, { name := "memo", type := 86, offset := 6, embedded := false, tag := "", pkgPath := "groove/syncmark", byteOffset := 104 }] }, size := 7, bytes := 112, zero := Value.agg { toList := [Value.int IntKind.i64 (0), Value.int IntKind.i64 (0), Value.slice none 0 0, Value.string { data := #[] }, Value.slice none 0 0, Value.slice none 0 0, Value.map none] } } := by kernel_rfl
theorem ty91 : ty Try.prog 91 = some { desc := TypeDesc.func #[81, 53] #[81] false, size := 1, bytes := 8, zero := Value.nilFunc } := by kernel_rfl
theorem ty92 : ty Try.prog 92 = some { desc := TypeDesc.interface #[("Error", 95)], size := 1, bytes := 16, zero := Value.nilIface } := by kernel_rfl
theorem ty93 : ty Try.prog 93 = some { desc := TypeDesc.interface #[("Error", 95)], size := 1, bytes := 16, zero := Value.nilIface } := by kernel_rfl
theorem ty94 : ty Try.prog 94 = some { desc := TypeDesc.func #[5] #[93] false, size := 1, bytes := 8, zero := Value.nilFunc } := by kernel_rfl
theorem ty95 : ty Try.prog 95 = some { desc := TypeDesc.func #[] #[9] false, size := 1, bytes := 8, zero := Value.nilFunc } := by kernel_rfl
theorem ty96 : ty Try.prog 96 = some { desc := TypeDesc.func #[9, 3, 5] #[3] false, size := 1, bytes := 8, zero := Value.nilFunc } := by kernel_rfl
theorem ty97 : ty Try.prog 97 = some { desc := TypeDesc.func #[65] #[] false, size := 1, bytes := 8, zero := Value.nilFunc } := by kernel_rfl
theorem ty98 : ty Try.prog 98 = some { desc := TypeDesc.func #[65] #[] false, size := 1, bytes := 8, zero := Value.nilFunc } := by kernel_rfl
theorem ty99 : ty Try.prog 99 = some { desc := TypeDesc.func #[9, 9] #[98] false, size := 1, bytes := 8, zero := Value.nilFunc } := by kernel_rfl
theorem ty100 : ty Try.prog 100 = some { desc := TypeDesc.func #[24, 35, 5] #[35] false, size := 1, bytes := 8, zero := Value.nilFunc } := by kernel_rfl
theorem ty101 : ty Try.prog 101 = some { desc := TypeDesc.func #[102] #[72] false, size := 1, bytes := 8, zero := Value.nilFunc } := by kernel_rfl
theorem ty102 : ty Try.prog 102 = some { desc := TypeDesc.func #[53] #[35] false, size := 1, bytes := 8, zero := Value.nilFunc } := by kernel_rfl
theorem ty103 : ty Try.prog 103 = some { desc := TypeDesc.func #[3, 9] #[9, 28] false, size := 1, bytes := 8, zero := Value.nilFunc } := by kernel_rfl
theorem ty104 : ty Try.prog 104 = some { desc := TypeDesc.int IntKind.u64, size := 1, bytes := 8, zero := Value.int IntKind.u64 (0) } := by kernel_rfl
theorem ty105 : ty Try.prog 105 = some { desc := TypeDesc.tuple #[104, 104], size := 1, bytes := 0, zero := Value.tuple #[Value.int IntKind.u64 (0), Value.int IntKind.u64 (0)] } := by kernel_rfl
theorem ty106 : ty Try.prog 106 = some { desc := TypeDesc.func #[104, 104] #[104, 104] false, size := 1, bytes := 8, zero := Value.nilFunc } := by kernel_rfl
theorem ty107 : ty Try.prog 107 = some { desc := TypeDesc.func #[3] #[] false, size := 1, bytes := 8, zero := Value.nilFunc } := by kernel_rfl
theorem ty108 : ty Try.prog 108 = some { desc := TypeDesc.tuple #[3, 93], size := 1, bytes := 0, zero := Value.tuple #[Value.int IntKind.i64 (0), Value.nilIface] } := by kernel_rfl
theorem ty109 : ty Try.prog 109 = some { desc := TypeDesc.func #[9] #[3, 93] false, size := 1, bytes := 8, zero := Value.nilFunc } := by kernel_rfl
theorem ty110 : ty Try.prog 110 = some { desc := TypeDesc.func #[] #[3] false, size := 1, bytes := 8, zero := Value.nilFunc } := by kernel_rfl
theorem ty111 : ty Try.prog 111 = some { desc := TypeDesc.func #[9] #[87] false, size := 1, bytes := 8, zero := Value.nilFunc } := by kernel_rfl
theorem ty112 : ty Try.prog 112 = some { desc := TypeDesc.tuple #[4, 4], size := 1, bytes := 0, zero := Value.tuple #[Value.bool false, Value.bool false] } := by kernel_rfl
theorem ty113 : ty Try.prog 113 = some { desc := TypeDesc.array 16 3, size := 16, bytes := 128, zero := Value.agg { toList := [Value.int IntKind.i64 (0), Value.int IntKind.i64 (0), Value.int IntKind.i64 (0), Value.int IntKind.i64 (0), Value.int IntKind.i64 (0), Value.int IntKind.i64 (0), Value.int IntKind.i64 (0), Value.int IntKind.i64 (0), Value.int IntKind.i64 (0), Value.int IntKind.i64 (0), Value.int IntKind.i64 (0), Value.int IntKind.i64 (0), Value.int IntKind.i64 (0), Value.int IntKind.i64 (0), Value.int IntKind.i64 (0), Value.int IntKind.i64 (0)] } } := by kernel_rfl
theorem ty114 : ty Try.prog 114 = some { desc := TypeDesc.array 16 3, size := 16, bytes := 128, zero := Value.agg { toList := [Value.int IntKind.i64 (0), Value.int IntKind.i64 (0), Value.int IntKind.i64 (0), Value.int IntKind.i64 (0), Value.int IntKind.i64 (0), Value.int IntKind.i64 (0), Value.int IntKind.i64 (0), Value.int IntKind.i64 (0), Value.int IntKind.i64 (0), Value.int IntKind.i64 (0), Value.int IntKind.i64 (0), Value.int IntKind.i64 (0), Value.int IntKind.i64 (0), Value.int IntKind.i64 (0), Value.int IntKind.i64 (0), Value.int IntKind.i64 (0)] } } := by kernel_rfl
theorem ty115 : ty Try.prog 115 = some { desc := TypeDesc.pointer 5, size := 1, bytes := 8, zero := Value.pointer none } := by kernel_rfl
theorem ty116 : ty Try.prog 116 = some { desc := TypeDesc.func #[5] #[3] false, size := 1, bytes := 8, zero := Value.nilFunc } := by kernel_rfl
theorem ty117 : ty Try.prog 117 = some { desc := TypeDesc.func #[24, 35, 3] #[35] false, size := 1, bytes := 8, zero := Value.nilFunc } := by kernel_rfl
theorem ty118 : ty Try.prog 118 = some { desc := TypeDesc.tuple #[35, 28], size := 1, bytes := 0, zero := Value.tuple #[Value.slice none 0 0, Value.int IntKind.i64 (0)] } := by kernel_rfl
theorem ty119 : ty Try.prog 119 = some { desc := TypeDesc.func #[24, 35, 3] #[35, 28] false, size := 1, bytes := 8, zero := Value.nilFunc } := by kernel_rfl
theorem ty120 : ty Try.prog 120 = some { desc := TypeDesc.func #[3] #[3] false, size := 1, bytes := 8, zero := Value.nilFunc } := by kernel_rfl
theorem ty121 : ty Try.prog 121 = some { desc := TypeDesc.func #[35, 35] #[3] false, size := 1, bytes := 8, zero := Value.nilFunc } := by kernel_rfl
theorem ty122 : ty Try.prog 122 = some { desc := TypeDesc.int IntKind.u32, size := 1, bytes := 4, zero := Value.int IntKind.u32 (0) } := by kernel_rfl
theorem ty123 : ty Try.prog 123 = some { desc := TypeDesc.tuple #[122, 122], size := 1, bytes := 0, zero := Value.tuple #[Value.int IntKind.u32 (0), Value.int IntKind.u32 (0)] } := by kernel_rfl
theorem ty124 : ty Try.prog 124 = some { desc := TypeDesc.func #[122, 122] #[122, 122] false, size := 1, bytes := 8, zero := Value.nilFunc } := by kernel_rfl
theorem ty125 : ty Try.prog 125 = some { desc := TypeDesc.int IntKind.u64, size := 1, bytes := 8, zero := Value.int IntKind.u64 (0) } := by kernel_rfl
theorem ty126 : ty Try.prog 126 = some { desc := TypeDesc.tuple #[125, 125], size := 1, bytes := 0, zero := Value.tuple #[Value.int IntKind.u64 (0), Value.int IntKind.u64 (0)] } := by kernel_rfl
theorem ty127 : ty Try.prog 127 = some { desc := TypeDesc.func #[125, 125] #[125, 125] false, size := 1, bytes := 8, zero := Value.nilFunc } := by kernel_rfl
theorem ty129 : ty Try.prog 129 = some { desc := TypeDesc.func #[128] #[128] false, size := 1, bytes := 8, zero := Value.nilFunc } := by kernel_rfl
theorem ty130 : ty Try.prog 130 = some { desc := TypeDesc.func #[24, 35] #[28] false, size := 1, bytes := 8, zero := Value.nilFunc } := by kernel_rfl
theorem ty131 : ty Try.prog 131 = some { desc := TypeDesc.func #[139] #[] false, size := 1, bytes := 8, zero := Value.nilFunc } := by kernel_rfl
theorem ty132 : ty Try.prog 132 = some { desc := TypeDesc.func #[139] #[] false, size := 1, bytes := 8, zero := Value.nilFunc } := by kernel_rfl
theorem ty133 : ty Try.prog 133 = some { desc := TypeDesc.func #[24, 3] #[132] false, size := 1, bytes := 8, zero := Value.nilFunc } := by kernel_rfl
theorem ty134 : ty Try.prog 134 = some { desc := TypeDesc.func #[35] #[] false, size := 1, bytes := 8, zero := Value.nilFunc } := by kernel_rfl
theorem ty135 : ty Try.prog 135 = some { desc := TypeDesc.func #[35] #[35] false, size := 1, bytes := 8, zero := Value.nilFunc } := by kernel_rfl
theorem ty136 : ty Try.prog 136 = some { desc := TypeDesc.func #[9] #[122, 122] false, size := 1, bytes := 8, zero := Value.nilFunc } := by kernel_rfl
theorem ty137 : ty Try.prog 137 = some { desc := TypeDesc.func #[3, 3] #[3] false, size := 1, bytes := 8, zero := Value.nilFunc } := by kernel_rfl
theorem ty138 : ty Try.prog 138 = some { desc := TypeDesc.func #[3] #[64] false, size := 1, bytes := 8, zero := Value.nilFunc } := by kernel_rfl
theorem ty139 : ty Try.prog 139 = some { desc := TypeDesc.func #[3, 53] #[4] false, size := 1, bytes := 8, zero := Value.nilFunc } := by kernel_rfl
theorem ty140 : ty Try.prog 140 = some { desc := TypeDesc.func #[35, 3, 3, 3] #[] false, size := 1, bytes := 8, zero := Value.nilFunc } := by kernel_rfl
theorem ty141 : ty Try.prog 141 = some { desc := TypeDesc.func #[104] #[3] false, size := 1, bytes := 8, zero := Value.nilFunc } := by kernel_rfl
theorem ty142 : ty Try.prog 142 = some { desc := TypeDesc.func #[35, 3, 3] #[] false, size := 1, bytes := 8, zero := Value.nilFunc } := by kernel_rfl
theorem ty143 : ty Try.prog 143 = some { desc := TypeDesc.int IntKind.i64, size := 1, bytes := 8, zero := Value.int IntKind.i64 (0) } := by kernel_rfl
theorem ty144 : ty Try.prog 144 = some { desc := TypeDesc.tuple #[3, 143], size := 1, bytes := 0, zero := Value.tuple #[Value.int IntKind.i64 (0), Value.int IntKind.i64 (0)] } := by kernel_rfl
theorem ty145 : ty Try.prog 145 = some { desc := TypeDesc.func #[35, 3, 3] #[3, 143] false, size := 1, bytes := 8, zero := Value.nilFunc } := by kernel_rfl
theorem ty146 : ty Try.prog 146 = some { desc := TypeDesc.func #[35, 3, 3] #[4] false, size := 1, bytes := 8, zero := Value.nilFunc } := by kernel_rfl
theorem ty147 : ty Try.prog 147 = some { desc := TypeDesc.func #[35, 3, 3, 3] #[3] false, size := 1, bytes := 8, zero := Value.nilFunc } := by kernel_rfl
theorem ty148 : ty Try.prog 148 = some { desc := TypeDesc.tuple #[3, 4], size := 1, bytes := 0, zero := Value.tuple #[Value.int IntKind.i64 (0), Value.bool false] } := by kernel_rfl
theorem ty149 : ty Try.prog 149 = some { desc := TypeDesc.func #[35, 3, 3, 3] #[3, 4] false, size := 1, bytes := 8, zero := Value.nilFunc } := by kernel_rfl
theorem ty150 : ty Try.prog 150 = some { desc := TypeDesc.func #[122] #[3] false, size := 1, bytes := 8, zero := Value.nilFunc } := by kernel_rfl
theorem ty151 : ty Try.prog 151 = some { desc := TypeDesc.func #[125] #[3] false, size := 1, bytes := 8, zero := Value.nilFunc } := by kernel_rfl
theorem ty152 : ty Try.prog 152 = some { desc := TypeDesc.int IntKind.u64, size := 1, bytes := 8, zero := Value.int IntKind.u64 (0) } := by kernel_rfl
theorem ty153 : ty Try.prog 153 = some { desc := TypeDesc.func #[3] #[104] false, size := 1, bytes := 8, zero := Value.nilFunc } := by kernel_rfl
theorem ty154 : ty Try.prog 154 = some { desc := TypeDesc.func #[] #[125] false, size := 1, bytes := 8, zero := Value.nilFunc } := by kernel_rfl
theorem ty155 : ty Try.prog 155 = some { desc := TypeDesc.func #[35, 3, 156] #[3] false, size := 1, bytes := 8, zero := Value.nilFunc } := by kernel_rfl
theorem ty156 : ty Try.prog 156 = some { desc := TypeDesc.pointer 3, size := 1, bytes := 8, zero := Value.pointer none } := by kernel_rfl
theorem ty157 : ty Try.prog 157 = some { desc := TypeDesc.func #[35, 3, 3, 3, 156] #[3] false, size := 1, bytes := 8, zero := Value.nilFunc } := by kernel_rfl
theorem ty158 : ty Try.prog 158 = some { desc := TypeDesc.pointer 152, size := 1, bytes := 8, zero := Value.pointer none } := by kernel_rfl
theorem ty159 : ty Try.prog 159 = some { desc := TypeDesc.tuple #[3, 3], size := 1, bytes := 0, zero := Value.tuple #[Value.int IntKind.i64 (0), Value.int IntKind.i64 (0)] } := by kernel_rfl
theorem ty160 : ty Try.prog 160 = some { desc := TypeDesc.func #[35, 3, 3, 156] #[3, 3] false, size := 1, bytes := 8, zero := Value.nilFunc } := by kernel_rfl
theorem ty163 : ty Try.prog 163 = some { desc := TypeDesc.array 0 16, size := 0, bytes := 0, zero := Value.agg #[] } := by kernel_rfl
theorem ty164 : ty Try.prog 164 = some { desc := TypeDesc.struct { toList := [{ name := "_", type := 163, offset := 0, embedded := false, tag := "", pkgPath := "runtime", byteOffset := 0 }] }, size := 0, bytes := 0, zero := Value.agg #[] } := by kernel_rfl
theorem ty165 : ty Try.prog 165 = some { desc := TypeDesc.struct { toList := [{ name := "_", type := 163, offset := 0, embedded := false, tag := "", pkgPath := "runtime", byteOffset := 0 }] }, size := 0, bytes := 0, zero := Value.agg #[] } := by kernel_rfl
theorem ty166 : ty Try.prog 166 = some { desc := TypeDesc.int IntKind.u8, size := 1, bytes := 1, zero := Value.int IntKind.u8 (0) } := by kernel_rfl
theorem ty167 : ty Try.prog 167 = some { desc := TypeDesc.int IntKind.u8, size := 1, bytes := 1, zero := Value.int IntKind.u8 (0) } := by kernel_rfl
theorem ty168 : ty Try.prog 168 = some { desc := TypeDesc.func #[128, 128] #[4] false, size := 1, bytes := 8, zero := Value.nilFunc } := by kernel_rfl
theorem ty169 : ty Try.prog 169 = some { desc := TypeDesc.int IntKind.i32, size := 1, bytes := 4, zero := Value.int IntKind.i32 (0) } := by kernel_rfl
theorem ty170 : ty Try.prog 170 = some { desc := TypeDesc.int IntKind.i32, size := 1, bytes := 4, zero := Value.int IntKind.i32 (0) } := by kernel_rfl
attribute [go_sem] ty0 ty1 ty2 ty3 ty4 ty5 ty6 ty9 ty10 ty11 ty12 ty13 ty14 ty15 ty16 ty17 ty18 ty19 ty20 ty21 ty22 ty23 ty24 ty25 ty26 ty27 ty28 ty29 ty30 ty31 ty32 ty33 ty34 ty35 ty36 ty37 ty38 ty39 ty40 ty41 ty42 ty43 ty44 ty45 ty46 ty47 ty48 ty49 ty50 ty51 ty52 ty53 ty54 ty55 ty56 ty57 ty58 ty59 ty60 ty61 ty62 ty63 ty64 ty65 ty66 ty67 ty68 ty69 ty70 ty71 ty72 ty73 ty74 ty75 ty76 ty77 ty78 ty79 ty81 ty82 ty83 ty84 ty85 ty86 ty87 ty88 ty90 ty91 ty92 ty93 ty94 ty95 ty96 ty97 ty98 ty99 ty100 ty101 ty102 ty103 ty104 ty105 ty106 ty107 ty108 ty109 ty110 ty111 ty112 ty113 ty114 ty115 ty116 ty117 ty118 ty119 ty120 ty121 ty122 ty123 ty124 ty125 ty126 ty127 ty129 ty130 ty131 ty132 ty133 ty134 ty135 ty136 ty137 ty138 ty139 ty140 ty141 ty142 ty143 ty144 ty145 ty146 ty147 ty148 ty149 ty150 ty151 ty152 ty153 ty154 ty155 ty156 ty157 ty158 ty159 ty160 ty163 ty164 ty165 ty166 ty167 ty168 ty169 ty170
theorem follows : Try.prog.follows .mixedOrders = true := by kernel_rfl
end Go.AW

namespace Go.AW
open Go Go.Proofs
theorem fo24_0 : fieldOf Try.prog 24 0 = some (0, { desc := TypeDesc.int IntKind.i64, size := 1, bytes := 8, zero := Value.int IntKind.i64 (0) }) := by kernel_rfl
theorem fo24_1 : fieldOf Try.prog 24 1 = some (1, { desc := TypeDesc.int IntKind.i64, size := 1, bytes := 8, zero := Value.int IntKind.i64 (0) }) := by kernel_rfl
theorem fo24_2 : fieldOf Try.prog 24 2 = some (2, { desc := TypeDesc.slice 53, size := 1, bytes := 24, zero := Value.slice none 0 0 }) := by kernel_rfl
theorem fo53_0 : fieldOf Try.prog 53 0 = some (0, { desc := TypeDesc.int IntKind.i64, size := 1, bytes := 8, zero := Value.int IntKind.i64 (0) }) := by kernel_rfl
theorem fo53_1 : fieldOf Try.prog 53 1 = some (1, { desc := TypeDesc.int IntKind.i64, size := 1, bytes := 8, zero := Value.int IntKind.i64 (0) }) := by kernel_rfl
theorem fo53_2 : fieldOf Try.prog 53 2 = some (2, { desc := TypeDesc.int IntKind.i64, size := 1, bytes := 8, zero := Value.int IntKind.i64 (0) }) := by kernel_rfl
theorem fo81_0 : fieldOf Try.prog 81 0 = some (0, { desc := TypeDesc.int IntKind.i64, size := 1, bytes := 8, zero := Value.int IntKind.i64 (0) }) := by kernel_rfl
theorem fo81_1 : fieldOf Try.prog 81 1 = some (1, { desc := TypeDesc.int IntKind.i64, size := 1, bytes := 8, zero := Value.int IntKind.i64 (0) }) := by kernel_rfl
theorem fo81_2 : fieldOf Try.prog 81 2 = some (2, { desc := TypeDesc.bool, size := 1, bytes := 1, zero := Value.bool false }) := by kernel_rfl
theorem fo81_3 : fieldOf Try.prog 81 3 = some (3, { desc := TypeDesc.int IntKind.i64, size := 1, bytes := 8, zero := Value.int IntKind.i64 (0) }) := by kernel_rfl
theorem fo85_1 : fieldOf Try.prog 85 1 = some (1, { desc := TypeDesc.slice 5, size := 1, bytes := 24, zero := Value.slice none 0 0 }) := by kernel_rfl
theorem fo90_1 : fieldOf Try.prog 90 1 = some (3, { desc := TypeDesc.string, size := 1, bytes := 16, zero := Value.string { data := #[] } }) := by kernel_rfl
theorem fo90_2 : fieldOf Try.prog 90 2 = some (4, { desc := TypeDesc.slice 114, size := 1, bytes := 24, zero := Value.slice none 0 0 }) := by kernel_rfl
theorem fo90_3 : fieldOf Try.prog 90 3 = some (5, { desc := TypeDesc.slice 22, size := 1, bytes := 24, zero := Value.slice none 0 0 }) := by kernel_rfl
theorem fo90_4 : fieldOf Try.prog 90 4 = some (6, { desc := TypeDesc.map 81 4, size := 1, bytes := 8, zero := Value.map none }) := by kernel_rfl
theorem es22 : elemSize Try.prog 22 = some 3 := by kernel_rfl
theorem es35 : elemSize Try.prog 35 = some 1 := by kernel_rfl
theorem es48 : elemSize Try.prog 48 = some 1 := by kernel_rfl
theorem es64 : elemSize Try.prog 64 = some 1 := by kernel_rfl
theorem es79 : elemSize Try.prog 79 = some 4 := by kernel_rfl
theorem es87 : elemSize Try.prog 87 = some 16 := by kernel_rfl
theorem es88 : elemSize Try.prog 88 = some 1 := by kernel_rfl
theorem es114 : elemSize Try.prog 114 = some 1 := by kernel_rfl
end Go.AW

/- Lockstep walks: ranges over functions. -/
namespace Go.AW
open Go

def forL {S α X : Type} (body : S → α → Option (Stp S X)) : List α → S → Option (Ou S X)
  | [], s => some (.go s)
  | x :: l, s => match body s x with
    | some (.next s') => forL body l s'
    | some (.exit y) => some (.ret y)
    | none => none

def Yields (P : Program) (f : FuncId) (fs cs : List HV) (ys : List (List HV)) : Prop :=
  ∀ (id ver : Nat) (H : Heap) (J : Nat → Heap → Prop) (Stop : Heap → Prop) (K : HV → Heap → Prop), (∀ i H H', J i H → (∀ j x, hget H j = some x → hget H' j = some x) → J i H') → J 0 H →
    (∀ i y H, ys[i]? = some y → J i H → YCall P id ver y H fun r H' => ∃ b, r = .bool b ∧ (b = true → J (i + 1) H') ∧ (b = false → Stop H')) →
    (∀ H, J ys.length H → K (.tup []) H) → (∀ H, Stop H → K (.tup []) H) → ACall P f (fs ++ [.yl id ver] ++ cs) H K

theorem YCall.of {P : Program} {id ver fn n : Nat} {snap : List (Nat × HV)} {ps : Array Tmp} {assign body : Code} {hs : List HV} {H : Heap} {K : HV → Heap → Prop} (hg : hget H id = some (ver, .loop .ready none fn n snap ps assign body)) (hl : ps.size = hs.length) (hp : ∀ p ∈ ps.toList, p < n)
    (h : ∀ l, AW P (some l) n assign (fun e s1 => e = .normal ∧ hget s1.heap id = some (ver, .loop .ready none fn n snap ps assign body) ∧
      AW P (some l) n body (rndQ id ver fn n snap ps assign body K) { s1 with heap := hset s1.heap id ver (.loop .busy none fn n snap ps assign body) }) { slots := setPs snap ps.toList hs, heap := H }) : YCall P id ver hs H K :=
  ⟨fn, n, snap, ps, assign, body, hg, hl, hp, h⟩

section
variable {P : Program} {N : Nat} {Q : Exit → AS → Prop} {s : AS}

def rdQ (G J : AS → Prop) (c : Code) : Exit → AS → Prop
  | .normal, s => G s
  | .ret, s => c = .ret ∧ J s
  | .exit i, s => c = .exit i ∧ J s
  | _, _ => False

theorem hget_le {H H' : Heap} (h : ∀ i x, hget H' i = some x → hget H i = some x) {id ver : Nat} {o : AObj} (hn : hget H' id = none) : ∀ i x, hget H' i = some x → hget (hset H id ver o) i = some x := fun i x hx => by
  rw [hget_hset, if_neg (fun e => by rw [e, hn] at hx; cases hx)]
  exact h i x hx

theorem AW.rangeY {S α X R V W : Type} {g : Operand} {ps : Array Tmp} {assign body c : Code} {f : FuncId} {fs cs : List HV} {mb : S → α → Option (Stp S X)} {L : List α} {M : S → Option R} {Mx : X → Option R} {s0 : S} {r : R} {sl : List (Nat × HV)}
    (id : Nat) (ye : α → List HV) (h : lpO (forL mb L s0) M Mx = some r) (up : Up (Q .normal)) (hg : (⟨sl, []⟩ : AS).ev g = some (.fn (.func f) fs cs)) (hy : Yields P f fs cs (L.map ye))
    (St : S → V → Heap) (v0 : V) (Sx : X → W → Heap) (hno : ∀ a v, hget (St a v) id = none) (hnox : ∀ a v, hget (Sx a v) id = none) (hps : (ps.toList.all fun p => Nat.blt p N) = true) (hpl : ∀ x, ps.size = (ye x).length)
    (kdone : ∀ a v, M a = some r → Q .normal ⟨sl, St a v⟩) (kout : ∀ x w, Mx x = some r → AW P none N c Q ⟨sl, Sx x w⟩)
    (round : ∀ (Lo : LoopState → Option Code → AObj) (l ver : Nat) (a : S) (x : α) (v : V) (st : Stp S X), mb a x = some st →
      AW P (some l) N assign (fun e s1 => e = .normal ∧ hget s1.heap id = some (ver, Lo .ready none) ∧
        AW P (some l) N body (rdQ (fun s' => ∃ a' v', some (Stp.next a') = some st ∧ s'.le ⟨[], (id, ver, Lo .busy none) :: St a' v'⟩) (fun s' => ∃ x' w, some (Stp.exit x') = some st ∧ s'.le ⟨[], (id, ver, Lo .busy none) :: Sx x' w⟩) c)
          { s1 with heap := hset s1.heap id ver (Lo .busy none) }) ⟨setPs sl ps.toList (ye x), (id, ver, Lo .ready none) :: St a v⟩) :
    AW P none N (.rangeFunc g ps assign body) Q ⟨sl, St s0 v0⟩ := by
  have hg' : (⟨sl, St s0 v0⟩ : AS).ev g = some (.fn (.func f) fs cs) := by
    cases g <;> exact hg
  refine AW.rangeFunc id hg' fun fn ver => ?_
  obtain ⟨Lo, hLo⟩ : ∃ Lo : LoopState → Option Code → AObj, ∀ st p, Lo st p = .loop st p fn N sl ps assign body := ⟨_, fun _ _ => rfl⟩
  -- what the model comes to from a state on
  let J : Nat → Heap → Prop := fun i H => ∃ a v, lpO (forL mb (L.drop i) a) M Mx = some r ∧ hget H id = some (ver, Lo .ready none) ∧ ∀ j x, hget (St a v) j = some x → hget H j = some x
  let Stop : Heap → Prop := fun H => ∃ x w, Mx x = some r ∧ (hget H id = some (ver, Lo .done (some c))) ∧ ∀ j y, hget (Sx x w) j = some y → hget H j = some y
  refine hy id ver _ J Stop _ (fun i H H' ⟨a, v, h1, h2, h3⟩ hl => ⟨a, v, h1, hl _ _ h2, fun j x hx => hl _ _ (h3 j x hx)⟩) ⟨s0, v0, by rw [List.drop_zero]; exact h, by rw [hget_hset, if_pos rfl, hLo], fun j x hx => ?_⟩ ?_ ?_ ?_
  · exact hget_le (fun _ _ h => h) (hno s0 v0) j x hx
  · rintro i y H hyi ⟨a, v, hm, hlo, hle⟩
    rw [List.getElem?_map] at hyi
    cases hLi : L[i]? with
    | none => rw [hLi] at hyi; cases hyi
    | some x =>
      rw [hLi] at hyi
      cases hyi
      have hi := (List.getElem?_eq_some_iff.1 hLi).1
      have hx : L.drop i = x :: L.drop (i + 1) := by
        rw [List.drop_eq_getElem_cons hi]
        congr 1
        exact (List.getElem?_eq_some_iff.1 hLi).2
      rw [hx] at hm
      simp only [forL] at hm
      have hmb : ∃ st, mb a x = some st := by
        cases hb : mb a x with
        | none => rw [hb] at hm; cases hm
        | some st => exact ⟨st, rfl⟩
      obtain ⟨st, hst⟩ := hmb
      rw [hst] at hm
      rw [hLo] at hlo
      refine YCall.of hlo (hpl x) (fun p hp => by
        have := List.all_eq_true.1 hps p hp
        exact (Nat.blt_eq ▸ this : _)) fun l => ?_
      have hr := round Lo l ver a x v st hst
      refine AW.weaken ?_ (s' := ⟨setPs sl ps.toList (ye x), (id, ver, Lo .ready none) :: St a v⟩) ⟨fun _ _ h => h, fun j z hz => ?_⟩
      · refine hr.mono ?_
        rintro e s1 ⟨he, h1, h2⟩
        rw [hLo] at h1
        refine ⟨he, h1, ?_⟩
        rw [hLo] at h2
        refine h2.mono ?_
        rintro e s' h
        cases e with
        | normal =>
          obtain ⟨a', v', he', hl⟩ := h
          cases he'
          refine ⟨(hl.2 id _ (by simp only [hget, if_true])), true, rfl, fun _ => ⟨a', v', hm, (by rw [hget_hset, if_pos rfl, hLo]), ?_⟩, fun e => (by cases e)⟩
          refine hget_le (fun j z hz => hl.2 j z ?_) (hno a' v')
          simp only [hget]
          rw [if_neg (fun e => by rw [e, hno] at hz; cases hz)]
          exact hz
        | ret =>
          obtain ⟨hc, x', w, he', hl⟩ := h
          cases he'
          refine ⟨(hl.2 id _ (by simp only [hget, if_true])), false, rfl, fun e => (by cases e), fun _ => ⟨x', w, hm, (by rw [hget_hset, if_pos rfl, hLo, hc]), ?_⟩⟩
          refine hget_le (fun j z hz => hl.2 j z ?_) (hnox x' w)
          simp only [hget]
          rw [if_neg (fun e => by rw [e, hnox] at hz; cases hz)]
          exact hz
        | exit i' =>
          obtain ⟨hc, x', w, he', hl⟩ := h
          cases he'
          refine ⟨(hl.2 id _ (by simp only [hget, if_true])), false, rfl, fun e => (by cases e), fun _ => ⟨x', w, hm, (by rw [hget_hset, if_pos rfl, hLo, hc]), ?_⟩⟩
          refine hget_le (fun j z hz => hl.2 j z ?_) (hnox x' w)
          simp only [hget]
          rw [if_neg (fun e => by rw [e, hnox] at hz; cases hz)]
          exact hz
        | goto l => exact h.elim
        | panic ch => exact h.elim
        | outgrown => exact h.elim
      · simp only [hget] at hz
        split at hz
        · rename_i e
          subst e
          cases hz
          rw [hLo]; exact hlo
        · exact hle j z hz
  · rintro H ⟨a, v, hm, hlo, hle⟩
    rw [List.length_map, List.drop_length] at hm
    refine ⟨.ready, none, by rw [← hLo]; exact hlo, by simp, ?_⟩
    refine up _ (to_le (s' := ⟨sl, St a v⟩) ⟨fun _ _ h => h, ?_⟩ (kdone a v hm))
    exact hget_le hle (hno a v)
  · rintro H ⟨x, w, hm, hlo, hle⟩
    refine ⟨.done, some c, by rw [← hLo]; exact hlo, by simp, ?_⟩
    refine AW.weaken (kout x w hm) ⟨fun _ _ h => h, ?_⟩
    exact hget_le hle (hnox x w)
end
end Go.AW
namespace Go.AW
open Go

theorem ACall.freeze {P : Program} {f : FuncId} {args : List HV} {H : Heap} {K : HV → Heap → Prop} (n : Nat) (D H' : Heap)
    (h : ACall P f args H fun r H1 => (∀ j x, hget H' j = some x → hget H1 j = some x) ∧ (∀ j x, hget D j = some x → hget H1 j = some x ∧ hget H' j = none) ∧ K (frz n D r) H') : ACall P f args H K := by
  refine ⟨h.1, fun μ w vs hs hr hgl => (h.2 μ w vs hs hr hgl).mono ?_⟩
  rintro e w' ⟨v, r, H1, μ', rfl, ⟨h1, h2, k⟩, hs', hr', E⟩
  exact ⟨v, frz n D r, H', μ'.cut H', rfl, k, hs'.sub h1, frz_rep hs' h2 n r v hr', E.trans (Evo.cut w' μ' H')⟩

section
variable {P : Program} {ro : Option Nat} {N : Nat} {all : Array Oper} {rest : List Oper} {o : Oper} {K : AS → Prop} {sl : List (Nat × HV)} {H : Heap}
theorem o_yield {d : Nat} {aa : Array Operand} {ts : Array TypeId} {f : Operand} {id ver : Nat} {hs : List HV} (h0 : (o.dst, o.op) = (some d, .call ⟨.value f, aa, ts⟩)) (hf : (⟨sl, H⟩ : AS).ev f = some (.yl id ver)) (ha : aa.toList.mapM (⟨sl, H⟩ : AS).ev = some hs)
    (h : YCall P id ver hs H fun r H' => bops P ro N all rest K ⟨(d, r) :: sl, H'⟩) : aop P 0 [] o (fun s' => bops P ro N all rest K s') ⟨sl, H⟩ := by
  obtain ⟨h1, h2⟩ := Prod.mk.inj h0
  simp only [aop, h2, hf, ha]
  refine h.mono fun r H' hk => ?_
  rw [h1]
  exact bops_le (put_le (s := ⟨sl, H'⟩) d r) hk
theorem fresh_id (H : Heap) (d : Nat) : ∃ f, hget H (f * 1000 + d) = none := by
  have : ∀ H : Heap, ∃ m, ∀ j, m ≤ j → hget H j = none := by
    intro H
    induction H with
    | nil => exact ⟨0, fun _ _ => rfl⟩
    | cons p H ih =>
      obtain ⟨i, v, ob⟩ := p
      obtain ⟨m, hm⟩ := ih
      refine ⟨max m (i + 1), fun j hj => ?_⟩
      simp only [hget]
      rw [if_neg (by omega)]
      exact hm j (by omega)
  obtain ⟨m, hm⟩ := this H
  exact ⟨m, hm _ (by omega)⟩
theorem cons_le {H : Heap} {id ver : Nat} {ob : AObj} (hn : hget H id = none) : ∀ j x, hget H j = some x → hget ((id, ver, ob) :: H) j = some x := fun j x hx => by
  simp only [hget]
  rw [if_neg (fun e => by rw [e, hn] at hx; cases hx)]
  exact hx
theorem o_callK {d : Nat} {aa : Array Operand} {ts : Array TypeId} {f : Operand} {g : FuncId} {fs hs cs args : List HV} {q : HV} (H2 : Heap) (h0 : (o.dst, o.op) = (some d, .call ⟨.value f, aa, ts⟩)) (hf : (⟨sl, H⟩ : AS).ev f = some (.fn (.func g) fs cs)) (ha : aa.toList.mapM (⟨sl, H⟩ : AS).ev = some hs) (hargs : fs ++ hs ++ cs = args)
    (h : ∀ K : HV → Heap → Prop, K q H2 → ACall P g args H K) (k : bops P ro N all rest K ⟨(d, q) :: sl, H2⟩) : aop P 0 [] o (fun s' => bops P ro N all rest K s') ⟨sl, H⟩ := by
  obtain ⟨h1, h2⟩ := Prod.mk.inj h0
  refine op_call h2 hf ha hargs (h _ ?_)
  rw [h1]
  exact bops_le (put_le (s := ⟨sl, H2⟩) d q) k
theorem hset_le (H : Heap) (id ver : Nat) (ob : AObj) (sl : List (Nat × HV)) : (⟨sl, hset H id ver ob⟩ : AS).le ⟨sl, (id, ver, ob) :: H⟩ := ⟨fun _ _ h => h, fun i x hx => by
  simp only [hget] at hx
  simp only [hget_hset]
  exact hx⟩
theorem o_sortI {d : Nat} {aa : Array Operand} {ts : Array TypeId} {f : Operand} {g : FuncId} {id ver : Nat} {e : TypeId} {l : List Int} (hS : SortsI P g) (h0 : (o.dst, o.op) = (some d, .call ⟨.value f, aa, ts⟩)) (hf : (⟨sl, H⟩ : AS).ev f = some (.fn (.func g) [] [])) (ha : aa.toList.mapM (⟨sl, H⟩ : AS).ev = some [.ar id ver 1 0 l.length])
    (hg : hget H id = some (ver, .arr 1 e (l.map (.int .i64)))) (hl : l.length < 4611686018427387904) (k : bops P ro N all rest K ⟨(d, .tup []) :: sl, (id, ver, .arr 1 e ((sortI l).map (.int .i64))) :: H⟩) : aop P 0 [] o (fun s' => bops P ro N all rest K s') ⟨sl, H⟩ := by
  obtain ⟨h1, h2⟩ := Prod.mk.inj h0
  refine op_call h2 hf ha rfl (hS.arr H id ver e l _ hg hl ?_)
  rw [h1]
  exact bops_le (put_le (s := ⟨sl, hset H id ver _⟩) d _) (bops_le (hset_le H id ver _ _) k)
end

theorem SR.reobj {w : World} {μ : Mu} {H : Heap} (h : SR w μ H) {id ver : Nat} {o o' : AObj} (hg : hget H id = some (ver, o)) (ho : ∀ l, μ.loc id = some (ver, l) → OR w μ o l → OR w μ o' l) : SR w μ (hset H id ver o') where
  ok := h.ok
  has := fun j v x hj => by
    rw [hget_hset] at hj
    split at hj
    · rename_i e
      subst e
      cases hj
      obtain ⟨l, hl, hor⟩ := h.has j _ o hg
      exact ⟨l, hl, ho l hl hor⟩
    · exact h.has j v x hj
  only := fun j x hj => by
    rw [hget_hset]
    split
    · exact ⟨_, rfl⟩
    · exact h.only j x hj
  inj := h.inj
  held := h.held

theorem SR.le {w : World} {μ : Mu} {H H' : Heap} (h : SR w μ H) (he : ∀ j x, hget H' j = some x ↔ hget H j = some x) : SR w μ H' where
  ok := h.ok
  has := fun j v x hj => h.has j v x ((he j _).1 hj)
  only := fun j x hj => by
    obtain ⟨y, hy⟩ := h.only j x hj
    exact ⟨y, (he j y).2 hy⟩
  inj := h.inj
  held := h.held
section
variable {s : AS} {G : AS → Prop}
theorem to_ownC (id oid over n i k : Nat) (e e' : TypeId) {cells : List HV} (ho : hget s.heap oid = some (over, .arr n e' cells)) (hi : cells[i]? = some (.v (.slice none 0 0))) (hne : oid ≠ id)
    (h : ∀ ver, G { slots := s.slots, heap := (id, ver, .arr k e []) :: (oid, over, .arr n e' (cells.set i (.ar id ver k 0 0))) :: s.heap }) : s.to G := by
  intro ro N B μ a w hs
  have hE1 : Evo w μ w (μ.set id none) := Evo.repl hs.sr id none (Same.refl w) (Nat.le_refl _) (fun _ _ _ => rfl) (fun b hb => by cases hb)
  have hsr : SR w (μ.set id none) (hset s.heap id μ.nx (.arr k e [])) := hs.sr.repl id none _ (Same.refl w) (Nat.le_refl _) (fun _ _ _ => rfl) (fun b hb => by cases hb) rfl
  have hg : hget (hset s.heap id μ.nx (.arr k e [])) oid = some (over, .arr n e' cells) := by rw [hget_hset, if_neg hne]; exact ho
  have hsr2 := hsr.reobj (o' := .arr n e' (cells.set i (.ar id μ.nx k 0 0))) hg (fun l hl hor => by
    cases l with
    | none =>
      have : cells = [] := hor
      rw [this] at hi
      cases hi
    | some b =>
      obtain ⟨h0, cur, vs, rest, hrow, hcl, hrl⟩ := hor
      refine ⟨h0.set rfl i, cur, vs, rest, hrow, hcl, ?_⟩
      obtain ⟨x, hx, hxr⟩ := hrl.get hi
      have hset := RepL.set hrl (c := .ar id μ.nx k 0 0) (x := x) (.inl ⟨none, by simp [Mu.set], .inl ⟨rfl, hxr, rfl, rfl⟩⟩) i
      have hvs : vs.set i x = vs := by
        apply List.ext_getElem?
        intro j
        rw [List.getElem?_set]
        split
        · rename_i e
          subst e
          split
          · exact hx.symm
          · rename_i hlt
            rw [List.getElem?_eq_none (by omega)]
        · rfl
      rw [hvs] at hset
      exact hset)
  refine ⟨μ.set id none, _, h μ.nx, ⟨hs.size, hsr2.le fun j x => ?_, fun t hv ht => ⟨(hs.slot t hv ht).1, Rep.evo hE1 hs.sr.ok _ _ (hs.slot t hv ht).2⟩, hs.marks.evo hE1, hs.ro.evo hE1⟩, hE1⟩
  simp only [hget, hget_hset]
  by_cases h1 : j = id
  · subst h1
    rw [if_pos rfl, if_neg (Ne.symm hne), if_pos rfl]
  · rw [if_neg h1]
    by_cases h2 : j = oid
    · rw [if_pos h2, if_pos h2]
    · rw [if_neg h2, if_neg h2, if_neg h1]
end
end Go.AW

/- Laws of the loops of models. -/
namespace Go.AW
open Go

theorem loopN {S X : Type} {body : S → Option (Stp S X)} {Q : X → Prop} (n : Nat) (I : Nat → S → Prop)
    (step : ∀ i s, i < n → I i s → (∃ s', body s = some (.next s') ∧ I (i + 1) s') ∨ ∃ x, body s = some (.exit x) ∧ Q x) (fin : ∀ s, I n s → ∃ x, body s = some (.exit x) ∧ Q x) :
    ∀ (k : Nat) (s : S), k ≤ n → I k s → ∃ x, loopW body s = some x ∧ Q x := by
  intro k s hk h
  obtain ⟨d, rfl⟩ : ∃ d, n = k + d := ⟨n - k, by omega⟩
  induction d generalizing k s with
  | zero =>
    obtain ⟨x, h1, h2⟩ := fin s h
    exact ⟨x, loopW_exit h1, h2⟩
  | succ d ih =>
    rcases step k s (by omega) h with ⟨s', h1, h2⟩ | ⟨x, h1, h2⟩
    · have e : k + (d + 1) = (k + 1) + d := by omega
      rw [e] at step fin
      obtain ⟨x, h3, h4⟩ := ih (k + 1) s' h2 step fin (by omega)
      exact ⟨x, by rw [loopW_next h1]; exact h3, h4⟩
    · exact ⟨x, loopW_exit h1, h2⟩

theorem loop_any {S X : Type} {body : S → Option (Stp S X)} (st : Nat → S) (n : Nat) (p : Nat → Bool) (xr xf : X) (h : ∀ i, i < n → body (st i) = if p i = true then some (.exit xr) else some (.next (st (i + 1)))) (hf : body (st n) = some (.exit xf)) {s0 : S} (hs0 : s0 = st 0) :
    loopW body s0 = some (if (List.range n).any p = true then xr else xf) := by
  subst hs0
  obtain ⟨x, hx, hq⟩ := loopN (body := body) (Q := fun x => x = if (List.range n).any p = true then xr else xf) n (fun i s => s = st i ∧ (List.range i).any p = false) (fun i s hi ⟨hs, ha⟩ => by
    subst hs
    rw [h i hi]
    by_cases hp : p i = true
    · refine .inr ⟨xr, by rw [if_pos hp], ?_⟩
      rw [if_pos]
      exact List.any_eq_true.2 ⟨i, List.mem_range.2 hi, hp⟩
    · refine .inl ⟨_, by rw [if_neg hp], rfl, ?_⟩
      rw [List.range_succ, List.any_append, ha]
      simpa using hp) (fun s ⟨hs, ha⟩ => by subst hs; exact ⟨xf, hf, by rw [if_neg]; rw [ha]; simp⟩) 0 (st 0) (Nat.zero_le _) ⟨rfl, rfl⟩
  rw [hx, hq]

theorem loop_is {S X : Type} {body : S → Option (Stp S X)} (st : Nat → S) (n : Nat) (x : X) (h : ∀ i, i < n → body (st i) = some (.next (st (i + 1)))) (hf : body (st n) = some (.exit x)) {s0 : S} (hs0 : s0 = st 0) : loopW body s0 = some x := by
  subst hs0
  obtain ⟨y, hy, hq⟩ := loopN (body := body) (Q := fun y => y = x) n (fun i s => s = st i) (fun i s hi hs => by subst hs; exact .inl ⟨_, h i hi, rfl⟩) (fun s hs => by subst hs; exact ⟨x, hf, rfl⟩) 0 (st 0) (Nat.zero_le _) rfl
  rw [hy, hq]

theorem bindL {X R : Type} {o : Option X} {x : X} {M : X → Option R} {r : Option R} (h : o = some x) (k : M x = r) : o.bind M = r := by rw [h]; exact k
theorem lpL {V R Y : Type} {o : Option (Ou V R)} {x : Ou V R} {M : V → Option Y} {Rt : R → Option Y} {r : Option Y} (h : o = some x) (k : lpO (some x) M Rt = r) : lpO o M Rt = r := by rw [h]; exact k

theorem nx {i n : Nat} (hn : n ≤ 9223372036854775807) (h : i < n) : IntKind.wrap .i64 ((i : Int) + 1) = ((i + 1 : Nat) : Int) := by
  rw [w64 (by omega) (by omega)]; omega
theorem ix {α : Type} {l : List α} {i : Nat} (h : i < l.length) : idx l (i : Int) = some l[i] := by rw [idx_nat, List.getElem?_eq_getElem h]
theorem lt_int {i n : Nat} (h : i < n) : (i : Int) < (n : Int) := by omega
theorem not_lt_int (n : Nat) : ¬ (n : Int) < (n : Int) := by omega
end Go.AW

/- Structs of the program, and what the functions of the library that are not printed compute. -/
namespace Go.AW
open Go
abbrev TFromLabelTo := Int × Int × Int
abbrev cFromLabelTo (x : TFromLabelTo) : List HV := [HV.int .i64 x.1, HV.int .i64 x.2.1, HV.int .i64 x.2.2]
abbrev eFromLabelTo : EncL TFromLabelTo := encF 3 cFromLabelTo (fun _ => rfl)
abbrev TLabelsStatesEdges := Int × Int × (List (TFromLabelTo))
abbrev compact_ (l : List Int) : List Int := Lib.compact l
theorem compact_le (l : List Int) : (compact_ l).length ≤ l.length := by
  show (Lib.compactUpTo l.toArray l.length).length ≤ l.length
  unfold Lib.compactUpTo
  rw [List.length_map]
  exact Nat.le_trans (List.length_filter_le _ _) (by simp)
theorem compact_mem {l : List Int} {x : Int} (h : x ∈ compact_ l) : x ∈ l := by
  have h : x ∈ Lib.compactUpTo l.toArray l.length := h
  unfold Lib.compactUpTo at h
  obtain ⟨j, hj, rfl⟩ := List.mem_map.1 h
  have hj := List.mem_range.1 (List.mem_filter.1 hj).1
  have : l.toArray[j]! = l[j] := by simp [hj]
  rw [this]
  exact List.getElem_mem hj
noncomputable def m_strings_IndexByte (l : List UInt8) (c : Int) : Option Int := some (Lib.indexByte l c.toNat.toUInt8)
def leaveL (es : List TFromLabelTo) (s : Int) : List (Int × TFromLabelTo) := (es.zipIdx.filter fun p => decide (p.1.1 = s)).map fun p => ((p.2 : Int), p.1)
theorem leaveL_take (es : List TFromLabelTo) (s : Int) {i : Nat} (h : i < es.length) : leaveL (es.take (i + 1)) s = leaveL (es.take i) s ++ if es[i].1 = s then [((i : Int), es[i])] else [] := by
  have e : es.take (i + 1) = es.take i ++ [es[i]] := by rw [List.take_add_one, List.getElem?_eq_getElem h]; rfl
  rw [e]
  simp only [leaveL, List.zipIdx_append, List.filter_append, List.map_append, List.length_take, Nat.min_eq_left (Nat.le_of_lt h), Nat.zero_add]
  congr 1
  by_cases hs : es[i].1 = s <;> simp [List.zipIdx_cons, hs]
theorem leaveL_split (es : List TFromLabelTo) (s : Int) : ∀ (i : Nat), ∃ rest, leaveL es s = leaveL (es.take i) s ++ rest := fun i => by
  refine ⟨((es.drop i).zipIdx (es.take i).length |>.filter fun p => decide (p.1.1 = s)).map fun p => ((p.2 : Int), p.1), ?_⟩
  conv => lhs; rw [← List.take_append_drop i es]
  simp only [leaveL, List.zipIdx_append, List.filter_append, List.map_append, Nat.zero_add]
def y_graph_leaving (g : TLabelsStatesEdges) (s : Int) : Option (List (Int × TFromLabelTo)) := if g.2.2.length ≤ 9223372036854775807 then some (leaveL g.2.2 s) else none
end Go.AW

/- Regions that draw their order, piece by piece, in lockstep; guards of single operations. -/
namespace Go.AW
open Go
section
variable {P : Program} {ro : Option Nat} {N : Nat} {s : AS} {ops : Array Oper} {o : Oper} {sl : List (Nat × HV)} {H : Heap}

theorem AnyAt.eqc {Q : Exit → AS → Prop} {q : Nat} : Eqc (AnyAt P ro N ops Q q) := fun s s' he h w0 μ0 fuel listed μ1 a1 w1 h1 h2 h3 hs hE => h w0 μ0 fuel listed μ1 a1 w1 h1 h2 h3 (hs.eqv he) hE

theorem o_callA {all : Array Oper} {rest : List Oper} {K : AS → Prop} {d : Nat} {aa : Array Operand} {ts : Array TypeId} {f : Operand} {g : FuncId} {fs hs cs args : List HV} (h0 : (o.dst, o.op) = (some d, .call ⟨.value f, aa, ts⟩)) (hf : (⟨sl, H⟩ : AS).ev f = some (.fn (.func g) fs cs)) (ha : aa.toList.mapM (⟨sl, H⟩ : AS).ev = some hs) (hargs : fs ++ hs ++ cs = args)
    (h : ACall P g args H fun r H' => bops P ro N all rest K ⟨(d, r) :: sl, H'⟩) : aop P 0 [] o (fun s' => bops P ro N all rest K s') ⟨sl, H⟩ := by
  obtain ⟨h1, h2⟩ := Prod.mk.inj h0
  refine op_call h2 hf ha hargs (h.mono fun r H' hk => ?_)
  rw [h1]
  exact bops_le (put_le (s := ⟨sl, H'⟩) d r) hk

def nyops (P : Program) (ro : Option Nat) (N : Nat) (ops : Array Oper) (K : AS → Prop) (q : Nat) (s : AS) : Prop := AnyAt P ro N ops (fun e s' => e = .normal ∧ K s') q s

theorem AW.dy {id : Nat} {Q : Exit → AS → Prop} (hm : P.follows .mixedOrders = true) (h : ∀ K : AS → Prop, (∀ s', Q .normal s' → K s') → nyops P ro N ops K 0 s) : AW P ro N (.region id ops true) Q s :=
  AW.conseq (Q' := fun e s' => e = .normal ∧ Q .normal s') (AW.any hm (h (Q .normal) fun _ h => h)) fun e s1 ⟨he, h⟩ => he ▸ ⟨s1, AS.le_refl s1, h⟩
theorem AW.dys {id : Nat} {y : Code} {Q : Exit → AS → Prop} (hm : P.follows .mixedOrders = true) (h : ∀ K : AS → Prop, (∀ s', AW P ro N y Q s' → K s') → nyops P ro N ops K 0 s) : AW P ro N (.seq (.region id ops true) y) Q s :=
  AW.seq (AW.dy hm h)
variable {K : AS → Prop}
theorem y_st {q : Nat} (p : Nat) (hok : ops.toList.all (fun o => okd N o.dst) = true) (hc : (daOk ops && Nat.ble q p && Nat.ble p ops.size && waitOk ops q p && segOk ops q p) = true)
    (h : stops P ops.toList ((ops.toList.drop q).take (p - q)) (nyops P ro N ops K p) s) : nyops P ro N ops K q s := by
  simp only [Bool.and_eq_true] at hc
  obtain ⟨⟨⟨⟨h1, h2⟩, h3⟩, h4⟩, h5⟩ := hc
  exact AnyAt.steady p _ hok h1 (Nat.le_of_ble_eq_true h2) (Nat.le_of_ble_eq_true h3) h4 h5 (fun _ h => h) (h.go AnyAt.eqc)
theorem y_nil {q : Nat} (hc : (daOk ops && (ops.size == q)) = true) (h : K s) : nyops P ro N ops K q s := by
  simp only [Bool.and_eq_true, beq_iff_eq] at hc
  obtain ⟨h1, rfl⟩ := hc
  exact AnyAt.done h1 ⟨rfl, h⟩
end
end Go.AW

/- Lists of texts and of numbers; counting. -/
namespace Go.AW
open Go

theorem cnt_next {i n : Nat} (h : n ≤ 9223372036854775807) (hi : i < n) : IntKind.wrap .i64 ((i : Int) + 1) = ((i + 1 : Nat) : Int) := by
  rw [w64 (by omega) (by omega)]; omega
end Go.AW



namespace Go.Proofs
open Go

def Try.sortI_ren : Go.Shelf.Ren := ⟨fun | 5 => 102 | 8 => 109 | 7 => 108 | 19 => 118 | 20 => 119 | 10 => 110 | 11 => 111 | 12 => 112 | 13 => 113 | 14 => 114 | 15 => 115 | 16 => 49 | 17 => 116 | 18 => 117 | 30 => 120 | 31 => 121 | 32 => 122 | 33 => 123 | 34 => 124 | 35 => 70 | 40 => 125 | n => n, fun | 23 => 35 | 25 => 3 | 3 => 3 | 32 => 104 | 22 => 35 | 0 => 0 | 44 => 122 | 46 => 125 | 4 => 4 | 36 => 144 | 35 => 143 | 41 => 148 | 5 => 5 | 9 => 9 | 53 => 152 | 57 => 156 | 63 => 158 | 64 => 159 | n => n, fun | n => n⟩
theorem Try.sortI : Go.Proofs.SlLaysM.n5 Try.prog Try.sortI_ren where
  mixed := by kernel_rfl
  f5 := ⟨"slices.Sort[[]int,int]", by decide, Try.func102.trans (congrArg some (by kernel_rfl))⟩
  f7 := ⟨"slices.pdqsortOrdered[int]", by decide, Try.func108.trans (congrArg some (by kernel_rfl))⟩
  f8 := Try.func109.trans (congrArg some (by kernel_rfl))
  f10 := ⟨"slices.insertionSortOrdered[int]", by decide, Try.func110.trans (congrArg some (by kernel_rfl))⟩
  f11 := ⟨"slices.heapSortOrdered[int]", by decide, Try.func111.trans (congrArg some (by kernel_rfl))⟩
  f12 := ⟨"slices.breakPatternsOrdered[int]", by decide, Try.func112.trans (congrArg some (by kernel_rfl))⟩
  f13 := ⟨"slices.choosePivotOrdered[int]", by decide, Try.func113.trans (congrArg some (by kernel_rfl))⟩
  f14 := ⟨"slices.reverseRangeOrdered[int]", by decide, Try.func114.trans (congrArg some (by kernel_rfl))⟩
  f15 := ⟨"slices.partialInsertionSortOrdered[int]", by decide, Try.func115.trans (congrArg some (by kernel_rfl))⟩
  f16 := ⟨"cmp.Less[int]", by decide, Try.func49.trans (congrArg some (by kernel_rfl))⟩
  f17 := ⟨"slices.partitionEqualOrdered[int]", by decide, Try.func116.trans (congrArg some (by kernel_rfl))⟩
  f18 := ⟨"slices.partitionOrdered[int]", by decide, Try.func117.trans (congrArg some (by kernel_rfl))⟩
  f19 := Try.func118.trans (congrArg some (by kernel_rfl))
  f20 := Try.func119.trans (congrArg some (by kernel_rfl))
  f30 := ⟨"slices.siftDownOrdered[int]", by decide, Try.func120.trans (congrArg some (by kernel_rfl))⟩
  f31 := Try.func121.trans (congrArg some (by kernel_rfl))
  f32 := Try.func122.trans (congrArg some (by kernel_rfl))
  f33 := ⟨"slices.medianAdjacentOrdered[int]", by decide, Try.func123.trans (congrArg some (by kernel_rfl))⟩
  f34 := ⟨"slices.medianOrdered[int]", by decide, Try.func124.trans (congrArg some (by kernel_rfl))⟩
  f35 := ⟨"cmp.isNaN[int]", by decide, Try.func70.trans (congrArg some (by kernel_rfl))⟩
  f40 := ⟨"slices.order2Ordered[int]", by decide, Try.func125.trans (congrArg some (by kernel_rfl))⟩
  t0 := Try.underlying0
  a0 := Try.isAgg0
  z0 := Try.sizeOf0
  v0 := Try.zeroValue0
  t3 := Try.underlying3
  a3 := Try.isAgg3
  z3 := Try.sizeOf3
  v3 := Try.zeroValue3
  t4 := Try.underlying4
  a4 := Try.isAgg4
  z4 := Try.sizeOf4
  v4 := Try.zeroValue4
  t5 := Try.underlying5
  a5 := Try.isAgg5
  z5 := Try.sizeOf5
  v5 := Try.zeroValue5
  t9 := Try.underlying9
  a9 := Try.isAgg9
  z9 := Try.sizeOf9
  v9 := Try.zeroValue9
  t22 := Try.underlying35
  a22 := Try.isAgg35
  z22 := Try.sizeOf35
  v22 := Try.zeroValue35
  t23 := Try.underlying35
  a23 := Try.isAgg35
  z23 := Try.sizeOf35
  v23 := Try.zeroValue35
  t25 := Try.underlying3
  a25 := Try.isAgg3
  z25 := Try.sizeOf3
  v25 := Try.zeroValue3
  t32 := Try.underlying104
  a32 := Try.isAgg104
  z32 := Try.sizeOf104
  v32 := Try.zeroValue104
  t35 := Try.underlying143
  a35 := Try.isAgg143
  z35 := Try.sizeOf143
  v35 := Try.zeroValue143
  t36 := Try.underlying144
  a36 := Try.isAgg144
  z36 := Try.sizeOf144
  v36 := Try.zeroValue144
  t41 := Try.underlying148
  a41 := Try.isAgg148
  z41 := Try.sizeOf148
  v41 := Try.zeroValue148
  t44 := Try.underlying122
  a44 := Try.isAgg122
  z44 := Try.sizeOf122
  v44 := Try.zeroValue122
  t46 := Try.underlying125
  a46 := Try.isAgg125
  z46 := Try.sizeOf125
  v46 := Try.zeroValue125
  t53 := Try.underlying152
  a53 := Try.isAgg152
  z53 := Try.sizeOf152
  v53 := Try.zeroValue152
  t57 := Try.underlying156
  a57 := Try.isAgg156
  z57 := Try.sizeOf156
  v57 := Try.zeroValue156
  t63 := Try.underlying158
  a63 := Try.isAgg158
  z63 := Try.sizeOf158
  v63 := Try.zeroValue158
  t64 := Try.underlying159
  a64 := Try.isAgg159
  z64 := Try.sizeOf159
  v64 := Try.zeroValue159
end Go.Proofs

namespace Go.AW
open Go Go.Proofs Go.Sort

theorem repL_map {α : Type} {w : World} {μ : Mu} {f : α → HV} {g : α → Value} : ∀ {l : List α}, RepL w μ (l.map f) (l.map g) ↔ ∀ x ∈ l, Rep w μ (f x) (g x)
  | [] => by simp [RepL]
  | a :: l => by
    simp only [List.map_cons, RepL, List.mem_cons, forall_eq_or_imp]
    constructor
    · rintro ⟨x, xs, e, h1, h2⟩
      cases e
      exact ⟨h1, repL_map.1 h2⟩
    · exact fun ⟨h1, h2⟩ => ⟨_, _, rfl, h1, repL_map.2 h2⟩

theorem sorted_world {α : Type} [Inhabited α] {enc : α → Value} {f : α → HV} (hf1 : ∀ x, (f x).one = true) {w : World} {μ : Mu} {H : Heap} {id ver b k : Nat} {e : TypeId} {l d : List α} (hs : SR w μ H) (hg : hget H id = some (ver, .arr k e (l.map f)))
    (hl : μ.loc id = some (ver, some b)) (hrep : ∀ x ∈ l, Rep w μ (f x) (enc x)) (hor : OR w μ (.arr k e (l.map f)) (some b)) (hv : ∀ vs, RepL w μ (l.map f) vs → vs = l.map enc) (hp : d.Perm l) (n : Nat) (os : Array Obj) :
    SR (grow (putRow enc (Sort.ahead w n) b 0 d.toArray) os) μ (hset H id ver (.arr k e (d.map f))) ∧ Evo w μ (grow (putRow enc (Sort.ahead w n) b 0 d.toArray) os) μ := by
  obtain ⟨h0, cur, vs, rest, hrow, hcl, hrl⟩ := hor
  have hvs := hv vs hrl
  subst hvs
  have hlen : d.length = l.length := hp.length_eq
  have hcsz : cur.size = l.length + rest.length := by rw [← Array.length_toList, hcl]; simp
  -- the world with the row put
  have hb := hrow.lt
  obtain ⟨lo, hi, hbk, hfr⟩ := hrow
  have hbk' : (putRow enc (Sort.ahead w n) b 0 d.toArray).heap[b]? = some (.cells (putCells enc 0 d.toArray cur) e (lo, hi)) := by
    show (w.heap.modify b _)[b]? = _
    rw [Array.getElem?_modify, if_pos rfl, hbk]
    rfl
  have hcur' : (putCells enc 0 d.toArray cur).toList = d.map enc ++ rest := by
    apply List.ext_getElem?
    intro i
    rw [Array.getElem?_toList]
    simp only [putCells, Array.getElem?_mapIdx]
    have hc : cur[i]? = (l.map enc ++ rest)[i]? := by rw [← hcl, Array.getElem?_toList]
    rw [hc]
    rcases Nat.lt_or_ge i d.length with hi | hi
    · rw [List.getElem?_append_left (by simp; omega), List.getElem?_append_left (by simpa using hi), List.getElem?_map, List.getElem?_map, List.getElem?_eq_getElem (by omega : i < l.length), List.getElem?_eq_getElem hi]
      simp only [Option.map_some]
      rw [if_pos ⟨Nat.zero_le _, by simpa using hi⟩]
      simp [hi]
    · rw [List.getElem?_append_right (by simp; omega), List.getElem?_append_right (by simpa using hi)]
      simp only [List.length_map, hlen]
      cases rest[i - l.length]? with
      | none => rfl
      | some x =>
        simp only [Option.map_some]
        rw [if_neg (by simp; omega)]
  have hsz1 : (putRow enc (Sort.ahead w n) b 0 d.toArray).heap.size = w.heap.size := by rw [size_putRow]; rfl
  have hrow1 : Row (putRow enc (Sort.ahead w n) b 0 d.toArray) b (putCells enc 0 d.toArray cur) e := ⟨lo, hi, hbk', by simpa [putCells] using hfr⟩
  have hold : ∀ b', b' ≠ b → (putRow enc (Sort.ahead w n) b 0 d.toArray).heap[b']? = w.heap[b']? := fun b' hne => by
    show (w.heap.modify b _)[b']? = _
    rw [Array.getElem?_modify, if_neg (fun e => hne e.symm)]
  obtain ⟨h1, h2⟩ := hs.updArr (cs' := d.map f) (w' := putRow enc (Sort.ahead w n) b 0 d.toArray) hg hl ⟨rfl, rfl, rfl⟩ hsz1 hold ⟨lo, hi, hbk, hfr⟩ hrow1 (by simp [putCells]) fun E => by
    refine ⟨fun c hc => ?_, _, d.map enc, rest, hrow1, hcur', repL_map.2 fun x hx => Rep.evo E hs.ok _ _ (hrep x (hp.mem_iff.1 hx))⟩
    obtain ⟨x, _, rfl⟩ := List.mem_map.1 hc
    exact hf1 x
  have g : Grow (putRow enc (Sort.ahead w n) b 0 d.toArray) (grow (putRow enc (Sort.ahead w n) b 0 d.toArray) os) :=
    ⟨⟨rfl, rfl, rfl⟩, by rw [size_grow]; omega, fun b' hb' => by
      show (_ ++ os)[b']? = _
      rw [Array.getElem?_append_left hb']⟩
  exact ⟨h1.grow g, h2.trans (Evo.grow h1 g)⟩

theorem holds_row {α : Type} [Inhabited α] {enc : α → Value} {w : World} {b : Nat} {cur : Array Value} {e : TypeId} {l : List α} {rest : List Value} (hrow : Row w b cur e) (hcl : cur.toList = l.map enc ++ rest) : Holds enc w b 0 l.toArray := by
  intro j hj
  have hj' : j < l.length := by simpa using hj
  have hc : cur[j]? = some (enc l[j]) := by
    rw [← Array.getElem?_toList, hcl, List.getElem?_append_left (by simpa using hj'), List.getElem?_map, List.getElem?_eq_getElem hj']
    rfl
  refine ⟨?_, ?_⟩
  · rw [Nat.zero_add, hrow.cell, hc]
    simp [hj']
  · rw [Nat.zero_add]
    exact hrow.free (Array.getElem?_eq_some_iff.1 hc).1

theorem repL_ints {w : World} {μ : Mu} : ∀ {l : List Int} {vs : List Value}, RepL w μ (l.map (.int .i64)) vs → vs = l.map (Value.int .i64) ∧ ∀ x ∈ l, Rep w μ (.int .i64 x) (Value.int .i64 x)
  | [], vs, h => by simp only [List.map_nil, RepL] at h; subst h; exact ⟨rfl, by simp⟩
  | a :: l, vs, ⟨x, xs, e, h1, h2⟩ => by
    obtain ⟨h3, h4⟩ := repL_ints h2
    obtain ⟨rfl, hl⟩ := h1
    subst e
    rw [h3]
    exact ⟨rfl, by simpa using ⟨⟨rfl, hl⟩, h4⟩⟩

theorem w179 {H : Heap} {id ver : Nat} {e : TypeId} {l : List Int} {K : HV → Heap → Prop} (hg : hget H id = some (ver, .arr 1 e (l.map (.int .i64)))) (hlen : l.length < 4611686018427387904)
    (hK : K (.tup []) (hset H id ver (.arr 1 e ((sortI l).map (.int .i64))))) : ACall Try.prog 102 [.ar id ver 1 0 l.length] H K := by
  refine ⟨enters' Try.func102 rfl rfl, fun μ w vs hs hr _ => ?_⟩
  obtain ⟨x, xs, rfl, hr, hn⟩ := hr
  cases hn
  obtain ⟨lo, hl, hor⟩ := hs.has _ _ _ hg
  rcases hr with ⟨lo', hl', h⟩ | ⟨hd, _⟩
  · rw [hl] at hl'
    cases hl'
    rcases h with ⟨rfl, rfl, h0, _⟩ | ⟨b, cap, cur, e', rfl, rfl, hcap, _, hrow, hsz⟩
    · have h0' : l = [] := List.eq_nil_of_length_eq_zero h0
      subst h0'
      refine (AnyM.slices_Sort_int_none Try.sortI none 0 w).mono ?_
      rintro e' w' ⟨rfl, rfl⟩
      refine ⟨_, .tup [], _, μ, rfl, hK, ?_, ⟨[], rfl, rfl⟩, Evo.refl _ _⟩
      have : (sortI []).map (HV.int .i64) = [] := by simp [sortI]
      rw [this]
      exact hs.same hg
    · have hor' := hor
      obtain ⟨h0, cur', vs', rest, hrow', hcl, hrl⟩ := hor
      obtain ⟨hvs, hreps⟩ := repL_ints hrl
      subst hvs
      refine (AnyM.slices_Sort_int Try.sortI b 0 cap l w (holds_row hrow' hcl) hrow'.lt hlen).mono ?_
      rintro e2 w' ⟨rfl, n, os, rfl⟩
      obtain ⟨h1, h2⟩ := sorted_world (f := HV.int .i64) (fun _ => rfl) hs hg hl hreps hor' (fun vs hv => (repL_ints hv).1) (List.mergeSort_perm l _) n os
      exact ⟨_, .tup [], _, μ, rfl, hK, h1, ⟨[], rfl, rfl⟩, h2⟩
  · exact absurd hl (hd.2 lo)

theorem sorts179 : SortsI Try.prog 102 := by
  refine ⟨fun _ _ _ _ _ _ hg hl hK => w179 hg hl hK, fun H K hK => ⟨enters' Try.func102 rfl rfl, fun μ w vs hs hr _ => ?_⟩⟩
  obtain ⟨x, xs, rfl, hr, hn⟩ := hr
  cases hn
  cases hr
  refine (AnyM.slices_Sort_int_none Try.sortI none 0 w).mono ?_
  rintro e' w' ⟨rfl, rfl⟩
  exact ⟨_, .tup [], _, μ, rfl, hK, hs, ⟨[], rfl, rfl⟩, Evo.refl _ _⟩
end Go.AW

namespace Go.AW
open Go Go.Proofs Go.Sort Go.Lib
theorem put_world {α : Type} [Inhabited α] {enc : α → Value} {f : α → HV} (hf1 : ∀ x, (f x).one = true) {w : World} {μ : Mu} {H : Heap} {id ver b k : Nat} {e : TypeId} {l d : List α} (hs : SR w μ H) (hg : hget H id = some (ver, .arr k e (l.map f)))
    (hl : μ.loc id = some (ver, some b)) (hrep : ∀ x ∈ d, Rep w μ (f x) (enc x)) (hor : OR w μ (.arr k e (l.map f)) (some b)) (hv : ∀ vs, RepL w μ (l.map f) vs → vs = l.map enc) (hlen : d.length = l.length) (n : Nat) :
    SR (putRow enc (Sort.ahead w n) b 0 d.toArray) μ (hset H id ver (.arr k e (d.map f))) ∧ Evo w μ (putRow enc (Sort.ahead w n) b 0 d.toArray) μ := by
  obtain ⟨h0, cur, vs, rest, hrow, hcl, hrl⟩ := hor
  have hvs := hv vs hrl
  subst hvs
  have hcsz : cur.size = l.length + rest.length := by rw [← Array.length_toList, hcl]; simp
  obtain ⟨lo, hi, hbk, hfr⟩ := hrow
  have hbk' : (putRow enc (Sort.ahead w n) b 0 d.toArray).heap[b]? = some (.cells (putCells enc 0 d.toArray cur) e (lo, hi)) := by
    show (w.heap.modify b _)[b]? = _
    rw [Array.getElem?_modify, if_pos rfl, hbk]
    rfl
  have hcur' : (putCells enc 0 d.toArray cur).toList = d.map enc ++ rest := by
    apply List.ext_getElem?
    intro i
    rw [Array.getElem?_toList]
    simp only [putCells, Array.getElem?_mapIdx]
    have hc : cur[i]? = (l.map enc ++ rest)[i]? := by rw [← hcl, Array.getElem?_toList]
    rw [hc]
    rcases Nat.lt_or_ge i d.length with hi | hi
    · rw [List.getElem?_append_left (by simp; omega), List.getElem?_append_left (by simpa using hi), List.getElem?_map, List.getElem?_map, List.getElem?_eq_getElem (by omega : i < l.length), List.getElem?_eq_getElem hi]
      simp only [Option.map_some]
      rw [if_pos ⟨Nat.zero_le _, by simpa using hi⟩]
      simp [hi]
    · rw [List.getElem?_append_right (by simp; omega), List.getElem?_append_right (by simpa using hi)]
      simp only [List.length_map, hlen]
      cases rest[i - l.length]? with
      | none => rfl
      | some x =>
        simp only [Option.map_some]
        rw [if_neg (by simp; omega)]
  have hsz1 : (putRow enc (Sort.ahead w n) b 0 d.toArray).heap.size = w.heap.size := by rw [size_putRow]; rfl
  have hrow1 : Row (putRow enc (Sort.ahead w n) b 0 d.toArray) b (putCells enc 0 d.toArray cur) e := ⟨lo, hi, hbk', by simpa [putCells] using hfr⟩
  have hold : ∀ b', b' ≠ b → (putRow enc (Sort.ahead w n) b 0 d.toArray).heap[b']? = w.heap[b']? := fun b' hne => by
    show (w.heap.modify b _)[b']? = _
    rw [Array.getElem?_modify, if_neg (fun e => hne e.symm)]
  exact hs.updArr (cs' := d.map f) (w' := putRow enc (Sort.ahead w n) b 0 d.toArray) hg hl ⟨rfl, rfl, rfl⟩ hsz1 hold ⟨lo, hi, hbk, hfr⟩ hrow1 (by simp [putCells]) fun E => by
    refine ⟨fun c hc => ?_, _, d.map enc, rest, hrow1, hcur', repL_map.2 fun x hx => Rep.evo E hs.ok _ _ (hrep x hx)⟩
    obtain ⟨x, _, rfl⟩ := List.mem_map.1 hc
    exact hf1 x
end Go.AW

namespace Go.Proofs
open Go

set_option maxHeartbeats 1000000 in
set_option maxRecDepth 100000 in
theorem Try.stringslite_IndexByte (s : ByteArray) (c : Int) (w : World) :
    Calls Try.prog 66 #[.string s, .int .u8 c] w fun e w' => e = .returned (.int .i64 (Lib.indexByte s.data.toList c.toNat.toUInt8)) ∧ w' = w := by
  go_enter Try.func66, Try.ntmps66
  go_wp2
  rw [run_callFunc_extern Try.func87 (by kernel_rfl) (by kernel_rfl) (by kernel_rfl) (e := Extern.BytealgIndexByte.indexByte) (by kernel_rfl), Lib.run_indexByteString]
  simp only [Result.andThen]
  rw [Oper.upon_value]
  go_wp2
  go_ret
  exact ⟨rfl, rfl⟩

set_option maxHeartbeats 1000000 in
theorem Try.strings_IndexByte (s : ByteArray) (c : Int) (w : World) :
    Calls Try.prog 42 #[.string s, .int .u8 c] w fun e w' => e = .returned (.int .i64 (Lib.indexByte s.data.toList c.toNat.toUInt8)) ∧ w' = w := by
  go_enter Try.func42, Try.ntmps42
  go_wp2_with (go_at_call 66; refine (Try.stringslite_IndexByte _ _ _).mono ?_; rintro e w' ⟨rfl, rfl⟩)
  go_ret
  exact ⟨rfl, rfl⟩

end Go.Proofs
namespace Go.AW
open Go Go.Proofs

theorem idx_wf (l : List UInt8) (c : UInt8) (hl : l.length ≤ maxLen) : (Lit.int .i64 (Lib.indexByte l c)).wf = true := by
  have h : ∀ l : List UInt8, -1 ≤ Lib.indexByte l c ∧ Lib.indexByte l c ≤ l.length := by
    intro l
    induction l with
    | nil => simp [Lib.indexByte]
    | cons a l ih =>
      simp only [Lib.indexByte, List.length_cons]
      split
      · omega
      · split
        · omega
        · omega
  have := h l
  simp only [maxLen] at hl
  simp only [Lit.wf, IntKind.min, IntKind.max, IntKind.signed, IntKind.bits, Bool.and_eq_true, decide_eq_true_eq]
  simp
  omega

theorem w51 (l : List UInt8) (c : Int) : Pure Try.prog 42 [.str l, .int .u8 c] (· = .int .i64 (Lib.indexByte l c.toNat.toUInt8)) := by
  refine ⟨enters' Try.func42 rfl rfl, fun μ w vs hs hr _ => ?_⟩
  obtain ⟨x, xs, rfl, ⟨rfl, hl⟩, y, ys, rfl, ⟨rfl, _⟩, hn⟩ := hr
  cases hn
  refine (Try.strings_IndexByte ⟨l.toArray⟩ c w).mono ?_
  rintro e w' ⟨rfl, rfl⟩
  exact ⟨_, _, [], μ, rfl, ⟨rfl, trivial, rfl⟩, hs, ⟨by simp, idx_wf l _ hl⟩, Evo.refl _ _⟩
end Go.AW

namespace Go.Proofs
open Go
def Try.compI_ren : Go.Shelf.Ren := ⟨fun | 20 => 103 | n => n, fun | 22 => 35 | 3 => 3 | 4 => 4 | 0 => 0 | n => n, fun | n => n⟩
theorem Try.compI : Go.Proofs.Lays2.n20 Try.prog Try.compI_ren where
  mixed := by kernel_rfl
  f20 := Try.func103.trans (congrArg some (by kernel_rfl))
  t0 := Try.underlying0
  a0 := Try.isAgg0
  z0 := Try.sizeOf0
  v0 := Try.zeroValue0
  t3 := Try.underlying3
  a3 := Try.isAgg3
  z3 := Try.sizeOf3
  v3 := Try.zeroValue3
  t4 := Try.underlying4
  a4 := Try.isAgg4
  z4 := Try.sizeOf4
  v4 := Try.zeroValue4
  t22 := Try.underlying35
  a22 := Try.isAgg35
  z22 := Try.sizeOf35
  v22 := Try.zeroValue35
  i3 := by kernel_rfl
end Go.Proofs
namespace Go.AW
open Go Go.Proofs Go.Sort Go.Lib
set_option linter.unusedVariables false

theorem c_sortI : SortsI Try.prog 102 := sorts179
theorem w180 {H : Heap} {id ver : Nat} {e : TypeId} {l : List Int} {K : HV → Heap → Prop} (hg : hget H id = some (ver, .arr 1 e (l.map (.int .i64))))
    (hK : K (.ar id ver 1 0 (compact_ l).length) (hset H id ver (.arr 1 e ((compact_ l ++ List.replicate (l.length - (compact_ l).length) 0).map (.int .i64))))) : ACall Try.prog 103 [.ar id ver 1 0 l.length] H K := by
  refine ⟨enters' Try.func103 rfl rfl, fun μ w vs hs hr _ => ?_⟩
  obtain ⟨x, xs, rfl, hr, hn⟩ := hr
  cases hn
  obtain ⟨lo, hl, hor⟩ := hs.has _ _ _ hg
  rcases hr with ⟨lo', hl', h⟩ | ⟨hd, _⟩
  · rw [hl] at hl'
    cases hl'
    rcases h with ⟨rfl, rfl, h0, _⟩ | ⟨b, cap, cur, e', rfl, rfl, hcap, hcm, hrow, hsz⟩
    · have hl0 := List.eq_nil_of_length_eq_zero h0
      subst hl0
      refine (Any.slices_Compact_int_empty Try.compI none 0 w).mono ?_
      rintro e2 w' ⟨rfl, rfl⟩
      refine ⟨_, .ar id ver 1 0 0, _, μ, rfl, hK, hs.reobj hg fun l hl hor => hor, .inl ⟨none, hl, .inl ⟨rfl, rfl, rfl, rfl⟩⟩, Evo.refl _ _⟩
    · have hor' := hor
      obtain ⟨h0, cur', vs', rest, hrow', hcl, hrl⟩ := hor
      obtain ⟨hvs, hreps⟩ := repL_ints hrl
      subst hvs
      refine (Any.slices_Compact_int Try.compI b 0 cap l w (holds_row hrow' hcl) (by have := hcm; simp only [maxLen] at this; omega) hcap).mono ?_
      · rintro e2 w' ⟨rfl, n, rfl⟩
        have hle := compact_le l
        have hlen : (compact_ l ++ List.replicate (l.length - (compact_ l).length) (0 : Int)).length = l.length := by simp; omega
        obtain ⟨h1, h2⟩ := put_world (f := HV.int .i64) (fun _ => rfl) hs hg hl (d := compact_ l ++ List.replicate (l.length - (compact_ l).length) 0) (fun x hx => by
          rcases List.mem_append.1 hx with hx | hx
          · exact hreps x (compact_mem hx)
          · rw [List.eq_of_mem_replicate hx]; exact ⟨rfl, rfl⟩) hor' (fun vs hv => (repL_ints hv).1) hlen n
        refine ⟨_, .ar id ver 1 0 (compact_ l).length, _, μ, rfl, hK, h1, .inl ⟨some b, hl, .inr ⟨b, cap, putCells (Value.int .i64) 0 (compact_ l ++ List.replicate (l.length - (compact_ l).length) 0).toArray cur, e', rfl, by simp, by omega, hcm, ?_, ?_⟩⟩, h2⟩
        · obtain ⟨lo, hi, hbk, hfr⟩ := hrow
          refine ⟨lo, hi, ?_, by simpa [putCells] using hfr⟩
          show (w.heap.modify b _)[b]? = _
          rw [Array.getElem?_modify, if_pos rfl, hbk]
          rfl
        · simp only [putCells, Array.size_mapIdx]; exact hsz
  · exact absurd hl (hd.2 lo)

theorem c_compactI {H H' : Heap} {id ver n : Nat} {e : TypeId} {l : List Int} {K : HV → Heap → Prop} (hn : n = l.length) (hg : hget H id = some (ver, .arr 1 e (l.map (.int .i64)))) (hle : ∀ j x, hget H' j = some x → hget H j = some x) (hno : hget H' id = none)
    (hK : K (slE eInt (compact_ l)) H') : ACall Try.prog 103 [.ar id ver 1 0 n] H K := by
  subst hn
  have hlen := compact_le l
  refine ACall.freeze 2 [(id, ver, .arr 1 e ((compact_ l ++ List.replicate (l.length - (compact_ l).length) 0).map (.int .i64)))] H' (w180 hg ⟨fun j x hx => ?_, fun j x hx => ?_, ?_⟩)
  · rw [hget_hset, if_neg (fun e => by rw [e, hno] at hx; cases hx)]
    exact hle j x hx
  · simp only [hget] at hx
    split at hx
    · rename_i e
      subst e
      cases hx
      exact ⟨by rw [hget_hset, if_pos rfl], hno⟩
    · cases hx
  · have : frz 2 [(id, ver, .arr 1 e ((compact_ l ++ List.replicate (l.length - (compact_ l).length) 0).map (.int .i64)))] (.ar id ver 1 0 (compact_ l).length) = slE eInt (compact_ l) := by
      have h0 : hget [(id, ver, AObj.arr 1 e ((compact_ l ++ List.replicate (l.length - (compact_ l).length) 0).map (.int .i64)))] id = some (ver, .arr 1 e ((compact_ l ++ List.replicate (l.length - (compact_ l).length) 0).map (.int .i64))) := by simp only [hget, if_true]
      rw [frz, h0]
      have h1 : ver = ver ∧ 0 + (compact_ l).length * 1 ≤ ((compact_ l ++ List.replicate (l.length - (compact_ l).length) (0 : Int)).map (HV.int .i64)).length := ⟨rfl, by simp⟩
      refine (if_pos h1).trans ?_
      rw [List.drop_zero, Nat.mul_one, List.map_append, List.take_left' (List.length_map _), List.map_map]
      rfl
    rw [this]
    exact hK

theorem w_strings_IndexByte {l : List UInt8} {c r : Int} (h : m_strings_IndexByte l c = some r) : Pure Try.prog 42 [HV.str l, HV.int .u8 c] (· = HV.int .i64 r) := by
  cases h
  exact w51 l c
end Go.AW

/- Regions that draw their order, with one operation that may be done late. -/
namespace Go.AW
open Go

section
variable {P : Program} {ro : Option Nat} {N : Nat} {s : AS}

def AnyAtZ (P : Program) (ro : Option Nat) (N : Nat) (ops : Array Oper) (Q : Exit → AS → Prop) (q z : Nat) (s : AS) : Prop :=
  ∀ (w0 : World) (μ0 : Mu) (fuel : Nat) (listed : Array Bool) (μ1 : Mu) (a1 : Act) (w1 : World) (s1 : AS), listed.size = ops.size → cnt listed ≤ fuel → (∀ i, i < ops.size → i ≠ z → listed.getD i false = decide (i < q)) →
    s1.heap = s.heap → (∀ t, dstOf ops z ≠ some t → sget s1.slots t = sget s.slots t) → (listed.getD z false = true → ∀ t, sget s1.slots t = sget s.slots t) →
    SRel ro N w0.heap.size μ1 s1 a1 w1 → Evo w0 μ0 w1 μ1 → wpAnyIn (fence ro) 0 P .any ops (Post ro N Q w0 μ0) fuel listed a1 w1

theorem AnyAtZ.op {ops : Array Oper} {Q : Exit → AS → Prop} {q z : Nat} {t : AS} (hda : daOk ops = true) (hq : q < ops.size) (hzq : z < q) (hw : waitOk ops q (q + 1) = true) (hwz : ∀ i, q < i → i < ops.size → z ∈ clos ops i) (hno : ∀ k, k ≤ q → k ≠ z → ¬ z ∈ da ops k)
    (hz0 : ∀ s1 : AS, s1.heap = s.heap → (∀ u, dstOf ops z ≠ some u → sget s1.slots u = sget s.slots u) → AOpI P ro N ops z (fun s2 => s2.heap = s.heap ∧ ∀ u, sget s2.slots u = sget s.slots u) s1)
    (hz1 : ∀ s1 : AS, s1.heap = t.heap → (∀ u, dstOf ops z ≠ some u → sget s1.slots u = sget t.slots u) → AOpI P ro N ops z (fun s2 => s2.heap = t.heap ∧ ∀ u, sget s2.slots u = sget t.slots u) s1)
    (hop : ∀ s1 : AS, s1.heap = s.heap → (∀ u, dstOf ops z ≠ some u → sget s1.slots u = sget s.slots u) → AOpI P ro N ops q (fun s2 => s2.heap = t.heap ∧ (∀ u, dstOf ops z ≠ some u → sget s2.slots u = sget t.slots u) ∧ ((∀ u, sget s1.slots u = sget s.slots u) → ∀ u, sget s2.slots u = sget t.slots u)) s1)
    (h : AnyAt P ro N ops Q (q + 1) t) : AnyAtZ P ro N ops Q q z s := by
  intro w0 μ0 fuel listed μ1 a1 w1 s1 hl hc hlist hh hsl hall hs hE
  have hda' := daOk_spec hda
  -- when z is done
  have done : ∀ (fuel : Nat) (listed : Array Bool) (μ1 : Mu) (a1 : Act) (w1 : World) (s1 : AS), listed.size = ops.size → cnt listed ≤ fuel → (∀ i, i < ops.size → listed.getD i false = decide (i < q)) → s1.heap = s.heap → (∀ u, sget s1.slots u = sget s.slots u) →
      SRel ro N w0.heap.size μ1 s1 a1 w1 → Evo w0 μ0 w1 μ1 → wpAnyIn (fence ro) 0 P .any ops (Post ro N Q w0 μ0) fuel listed a1 w1 := by
    intro fuel listed μ1 a1 w1 s1 hl hc hlist hh hsl hs hE
    refine AnyAt.op (s := s1) hda hq hw ?_ w0 μ0 fuel listed μ1 a1 w1 hl hc hlist hs hE
    have hk := hop s1 hh (fun u _ => hsl u)
    intro w0 μ0 μ a w next Q' hs hE hK
    refine hk w0 μ0 μ a w next Q' hs hE fun μ2 s2 a2 w2 hk2 hs2 hE2 => hK μ2 s2 a2 w2 ?_ hs2 hE2
    intro w3 μ3 fuel3 listed3 μ4 a4 w4 h1 h2 h3 h4 h5
    exact h w3 μ3 fuel3 listed3 μ4 a4 w4 h1 h2 h3 (h4.eqv ⟨hk2.1.symm, fun u => (hk2.2.2 hsl u).symm⟩) h5
  by_cases hlz : listed.getD z false = true
  · refine done fuel listed μ1 a1 w1 s1 hl hc (fun i hi => ?_) hh (hall hlz) hs hE
    by_cases e : i = z
    · rw [e, hlz]; simp [hzq]
    · exact hlist i hi e
  · have hzf : listed.getD z false = false := by simpa using hlz
    have hqn : listed.getD q false = false := by rw [hlist q hq (by omega)]; simp
    cases fuel with
    | zero =>
      have := cnt_pos (listed := listed) (i := q) (by rw [getD_tf (by omega)]; exact hqn)
      omega
    | succ fuel =>
      refine ⟨fun hr => ?_, fun i hi => ?_⟩
      · exfalso
        have := ready_of hda' hl (by omega : z < ops.size) hzf fun k hk => by rw [hlist k (by omega) (by omega)]; simp; omega
        rw [hr] at this
        cases this
      · have hdone := deps_done hi
        obtain ⟨h0, o, ho, _⟩ := mem_ready.1 hi
        have his := (Array.getElem?_eq_some_iff.1 ho).1
        by_cases hiz : i = z
        · subst hiz
          refine hz0 s1 hh hsl w0 μ0 μ1 a1 w1 _ _ hs hE fun μ2 s2 a2 w2 hk hs2 hE2 => done fuel _ μ2 a2 w2 s2 (by simp [hl]) ?_ (fun k hk => ?_) hk.1 hk.2 hs2 hE2
          · have := cnt_set (listed := listed) (i := i) h0
            omega
          · by_cases hki : i = k
            · subst hki
              have : i < listed.size := by omega
              simp [this, hzq]
            · rw [getD_set_ne false hki, hlist k hk (fun e => hki e.symm)]
        · rw [getD_tf (by omega), hlist i his hiz] at h0
          have hqi : q ≤ i := by simpa using h0
          have hiq : i = q := by
            rcases Nat.lt_or_ge q i with hlt | hge
            · exfalso
              have hc := waitOk_spec hw i hlt his q (Nat.le_refl _) (Nat.lt_succ_self _)
              have := clos_ind (fun k => k < q) (fun k hk => by
                have hd := hdone k hk
                by_cases e : k = z
                · omega
                · rw [hlist k (Nat.lt_trans (hda' i his k hk) his) e] at hd
                  simpa using hd) (fun k hki hkq m hm => Nat.lt_trans (hda' k (by omega) m hm) hkq) q hc
              omega
            · omega
          subst hiq
          refine hop s1 hh hsl w0 μ0 μ1 a1 w1 _ _ hs hE fun μ2 s2 a2 w2 hk hs2 hE2 => ?_
          -- now z alone is ready
          have hl2 : (listed.setIfInBounds i true).size = ops.size := by simp [hl]
          have hc2 := cnt_set (listed := listed) (i := i) (by rw [getD_tf (by omega)]; exact hqn)
          have hz2 : (listed.setIfInBounds i true).getD z false = false := by rw [getD_set_ne false hiz]; exact hzf
          have hlist2 : ∀ k, k < ops.size → k ≠ z → (listed.setIfInBounds i true).getD k false = decide (k < i + 1) := fun k hk hkz => by
            by_cases hki : i = k
            · subst hki
              have : i < listed.size := by omega
              simp [this]
            · rw [getD_set_ne false hki, hlist k hk hkz]
              congr 1
              apply propext
              omega
          cases fuel with
          | zero =>
            have := cnt_pos (listed := listed.setIfInBounds i true) (i := z) (by rw [getD_tf (by omega)]; exact hz2)
            omega
          | succ fuel =>
            refine ⟨fun hr => ?_, fun j hj => ?_⟩
            · exfalso
              have := ready_of hda' hl2 (by omega : z < ops.size) hz2 fun k hk => by rw [hlist2 k (by omega) (by omega)]; simp; omega
              rw [hr] at this
              cases this
            · have hdone2 := deps_done hj
              obtain ⟨h02, o2, ho2, _⟩ := mem_ready.1 hj
              have hjs := (Array.getElem?_eq_some_iff.1 ho2).1
              have hjz : j = z := by
                apply Classical.byContradiction
                intro hjz
                rw [getD_tf (by omega), hlist2 j hjs hjz] at h02
                have hij : i + 1 ≤ j := by simpa using h02
                have hcz := hwz j (by omega) hjs
                have := clos_ind (fun k => k ≠ z ∧ k < i + 1) (fun k hk => by
                  have hd := hdone2 k hk
                  have hkz : k ≠ z := fun e => by rw [e, hz2] at hd; cases hd
                  rw [hlist2 k (Nat.lt_trans (hda' j hjs k hk) hjs) hkz] at hd
                  exact ⟨hkz, by simpa using hd⟩) (fun k hkj hkz m hm => ?_) z hcz
                · exact this.1 rfl
                · have hmk := hda' k (by omega) m hm
                  refine ⟨fun e => ?_, by omega⟩
                  -- an operation that is done waits on z: it would not be done
                  exact absurd e (by intro e; exact hno k (by omega) hkz.1 (by rw [← e]; exact hm))
              subst hjz
              refine hz1 s2 hk.1 hk.2.1 w0 μ0 μ2 a2 w2 _ _ hs2 hE2 fun μ3 s3 a3 w3 hk3 hs3 hE3 => h w0 μ0 fuel _ μ3 a3 w3 (by simp [hl]) ?_ (fun k hk => ?_) (hs3.eqv ⟨hk3.1.symm, fun u => (hk3.2 u).symm⟩) hE3
              · have := cnt_set (listed := listed.setIfInBounds i true) (i := j) h02
                omega
              · by_cases hkj : j = k
                · subst hkj
                  have : j < (listed.setIfInBounds i true).size := by omega
                  simp only [Array.getD_eq_getD_getElem?]
                  rw [Array.getElem?_setIfInBounds_self_of_lt this]
                  simp; omega
                · rw [getD_set_ne false hkj, hlist2 k hk (fun e => hkj e.symm)]
end
end Go.AW

/- copy in lockstep; a region with an operation that may be done late. -/
namespace Go.AW
open Go
section
variable {P : Program} {ro : Option Nat} {N : Nat} {s : AS} {ops : Array Oper} {o : Oper} {sl : List (Nat × HV)} {H : Heap} {all : Array Oper} {rest : List Oper} {K : AS → Prop}

theorem AnyAtZ.eqc {Q : Exit → AS → Prop} {q z : Nat} : Eqc (AnyAtZ P ro N ops Q q z) := fun _ _ he h w0 μ0 fuel listed μ1 a1 w1 s1 h1 h2 h3 h4 h5 h6 h7 h8 =>
  h w0 μ0 fuel listed μ1 a1 w1 s1 h1 h2 h3 (h4.trans he.1.symm) (fun t ht => (h5 t ht).trans (he.2 t).symm) (fun hl t => (h6 hl t).trans (he.2 t).symm) h7 h8
end
end Go.AW

/- Maps with texts as keys, in lockstep. -/
namespace Go.AW
open Go
def entE {β : Type} (f : β → HV) (l : List (List UInt8 × β)) : List (List UInt8 × HV) := l.map fun x => (x.1, f x.2)
section
variable {P : Program} {ro : Option Nat} {N : Nat} {s : AS} {o : Oper} {sl : List (Nat × HV)} {H : Heap} {all : Array Oper} {rest : List Oper} {K : AS → Prop} {fid : Nat} {β : Type}

theorem o_makeMap (f : β → HV) {d : Nat} {t : TypeId} (id : Nat) (h0 : (o.dst, o.op) = (some d, .makeMap t none)) (hid : fid * 1000 + d = id)
    (k : ∀ ver, bops P ro N all rest K ⟨(d, .mp id ver) :: sl, (id, ver, .map (entE f [])) :: H⟩) : aop P fid [] o (fun s' => bops P ro N all rest K s') ⟨sl, H⟩ := by
  obtain ⟨h1, h2⟩ := Prod.mk.inj h0
  simp only [aop, h2, h1]
  intro ver
  have e : cid fid (some d) = id := hid
  rw [e]
  exact bops_le (putH_le (s := ⟨sl, H⟩) id ver (.map (entE f [])) d (.mp id ver)) (k ver)

end
end Go.AW

/- strings.Index -/
namespace Go.AW
open Go
noncomputable def m_strings_Index (a b : List UInt8) : Option Int := if a.length < 4294967281 then some (Lib.index a b) else none
theorem index_wf (a b : List UInt8) (h : a.length < 4294967281) : (Lit.int .i64 (Lib.index a b)).wf = true := by
  have h1 := Lib.index_le a b
  have h2 := Lib.index_ge a b
  simp only [Lit.wf, IntKind.min, IntKind.max, IntKind.signed, IntKind.bits, Bool.and_eq_true, decide_eq_true_eq]
  simp
  omega
def occB (w u : List UInt8) (n : Nat) : List Int := ((List.range n).filter fun i => u.isPrefixOf (w.drop i)).map Int.ofNat
def occL (w u : List UInt8) : List Int := occB w u (w.length + 1)
def y_word_occurrences (u w : List UInt8) : Option (List Int) := if w.length < 4294967281 ∧ u.length ≤ 9223372036854775807 - 4294967281 then some (occL w u) else none
theorem occB_split (w u : List UInt8) {a b : Nat} (h : a ≤ b) : occB w u b = occB w u a ++ ((List.range' a (b - a)).filter fun i => u.isPrefixOf (w.drop i)).map Int.ofNat := by
  unfold occB
  rw [← List.map_append, ← List.filter_append]
  congr 2
  rw [List.range_eq_range', List.range_eq_range']
  have := List.range'_append_1 (s := 0) (m := a) (n := b - a)
  rw [Nat.zero_add] at this
  rw [this, show a + (b - a) = b by omega]
theorem prefix_len {u v : List UInt8} (h : u.isPrefixOf v = true) : u.length ≤ v.length := (List.isPrefixOf_iff_prefix.1 h).length_le
theorem occ_none {w u : List UInt8} {a b : Nat} (h : a ≤ b) (hn : ∀ i, a ≤ i → i < b → u.isPrefixOf (w.drop i) = false) : occB w u b = occB w u a := by
  rw [occB_split w u h]
  have : (List.range' a (b - a)).filter (fun i => u.isPrefixOf (w.drop i)) = [] := by
    rw [List.filter_eq_nil_iff]
    intro i hi
    have := List.mem_range'_1.1 hi
    rw [hn i this.1 (by omega)]
    decide
  rw [this]
  simp
theorem occ_one {w u : List UInt8} {a i : Nat} (h : a ≤ i) (hn : ∀ j, a ≤ j → j < i → u.isPrefixOf (w.drop j) = false) (hi : u.isPrefixOf (w.drop i) = true) : occB w u (i + 1) = occB w u a ++ [(i : Int)] := by
  rw [← occ_none h hn]
  unfold occB
  rw [List.range_succ, List.filter_append, List.map_append]
  congr 1
  rw [List.filter_cons, if_pos hi]
  rfl
theorem index_tells (w u : List UInt8) {a : Nat} (ha : a ≤ w.length) : (Lib.index (w.drop a) u < 0 ∧ ∀ i, a ≤ i → i < w.length + 1 → u.isPrefixOf (w.drop i) = false) ∨
    ∃ k : Nat, Lib.index (w.drop a) u = (k : Int) ∧ a + k ≤ w.length ∧ (∀ j, a ≤ j → j < a + k → u.isPrefixOf (w.drop j) = false) ∧ u.isPrefixOf (w.drop (a + k)) = true := by
  by_cases hex : ∃ k, k ≤ w.length - a ∧ u.isPrefixOf (w.drop (a + k)) = true
  · right
    have hleast : ∃ k, (k ≤ w.length - a ∧ u.isPrefixOf (w.drop (a + k)) = true) ∧ ∀ m, (m ≤ w.length - a ∧ u.isPrefixOf (w.drop (a + m)) = true) → k ≤ m := least _ hex
    obtain ⟨k, ⟨h1, h2⟩, h3⟩ := hleast
    refine ⟨k, ?_, by omega, fun j hj1 hj2 => ?_, h2⟩
    · refine Lib.index_first (by rw [List.length_drop]; exact h1) ?_ fun j hj => ?_
      · unfold Lib.occAt
        rw [List.drop_drop]
        exact h2
      · unfold Lib.occAt
        rw [List.drop_drop]
        cases hc : u.isPrefixOf (w.drop (a + j)) with
        | false => rfl
        | true => have := h3 j ⟨by omega, hc⟩; omega
    · cases hc : u.isPrefixOf (w.drop j) with
      | false => rfl
      | true =>
        have := h3 (j - a) ⟨by omega, by rw [show a + (j - a) = j by omega]; exact hc⟩
        omega
  · left
    have hno : ∀ i, a ≤ i → i < w.length + 1 → u.isPrefixOf (w.drop i) = false := fun i h1 h2 => by
      cases hc : u.isPrefixOf (w.drop i) with
      | false => rfl
      | true => exact absurd ⟨i - a, by omega, by rw [show a + (i - a) = i by omega]; exact hc⟩ hex
    refine ⟨?_, hno⟩
    rw [Lib.index_none]
    · decide
    · intro j hj
      unfold Lib.occAt
      rw [List.drop_drop]
      rw [List.length_drop] at hj
      exact hno (a + j) (by omega) (by omega)
end Go.AW

/- strings.Index, by the kit's contract (the variable that it reads holds some number). -/
namespace Go.AW
open Go Go.Proofs
theorem w_strings_Index {a0 a1 : List UInt8} {r : Int} (h : m_strings_Index a0 a1 = some r) : Pure Try.prog 46 [HV.str a0, HV.str a1] (· = HV.int .i64 r) := by
  unfold m_strings_Index at h
  split at h
  · rename_i hl
    cases h
    refine ⟨enters' Try.func46 rfl rfl, fun μ w vs hs hr hgl => ?_⟩
    obtain ⟨x, xs, rfl, ⟨rfl, _⟩, y, ys, rfl, ⟨rfl, _⟩, hn⟩ := hr
    cases hn
    obtain ⟨⟨m, hm⟩, _⟩ := hgl (Try.index_ren.g 1) (by decide)
    refine (Any.strings_Index { Try.index with } ⟨a0.toArray⟩ ⟨a1.toArray⟩ m w (by show a0.toArray.size < _; simpa using hl) hm).mono ?_
    rintro e w' ⟨rfl, rfl⟩
    exact ⟨_, _, [], μ, rfl, ⟨rfl, trivial, rfl⟩, hs, ⟨by simp, index_wf a0 a1 hl⟩, Evo.refl _ _⟩
  · cases h
end Go.AW

/- Models, printed by lk.py. -/
namespace Go.AW
open Go
set_option linter.unusedVariables false
noncomputable def m_graph_list (p0 : TFromLabelTo) : Option ((List (Int))) :=
  some [p0.1, p0.2.1, p0.2.2]

noncomputable def m_cmp_isNaN_int (p0 : Int) : Option (Bool) :=
  some (decide (p0 ≠ p0))

noncomputable def m_cmp_Compare_int (p0 : Int) (p1 : Int) : Option (Int) :=
  (m_cmp_isNaN_int p0).bind fun x1 =>
  (m_cmp_isNaN_int p1).bind fun x3 =>
  if x1 = true then
    if x3 = true then
      some 0
    else
      some (-1)
  else
    if x3 = true then
      some 1
    else
      if p0 < p1 then
        some (-1)
      else
        if p1 < p0 then
          some 1
        else
          some 0

noncomputable def m_slices_Compare_Lint_int (p0 : List (Int)) (p1 : List (Int)) : Option (Int) :=
  lpO (loopW (S := Int) (X := Ou (Unit) (Int)) (fun a1 =>
      if a1 < ((p0).length : Int) then
        (idx p0 a1).bind fun x5 =>
        if ((p1).length : Int) ≤ a1 then
          some (Stp.exit (Ou.ret 1))
        else
          (idx p1 a1).bind fun x7 =>
          (m_cmp_Compare_int x5 x7).bind fun x9 =>
          if x9 ≠ 0 then
            some (Stp.exit (Ou.ret x9))
          else
            some (Stp.next (IntKind.wrap .i64 (a1 + 1)))
      else
        some (Stp.exit (Ou.go ()))) 0) (fun a11 =>
      if ((p0).length : Int) < ((p1).length : Int) then
        some (-1)
      else
        some 0) some

noncomputable def m_graph_by_api_Edge_1 (p0 : TFromLabelTo) (p1 : TFromLabelTo) : Option (Int) :=
  (m_graph_list p0).bind fun x1 =>
  (m_graph_list p1).bind fun x3 =>
  (m_slices_Compare_Lint_int x1 x3).bind fun x5 =>
  some x5

noncomputable def m_graph_Check (p0 : TLabelsStatesEdges) : Option (Int) :=
  jp (fun (a1 : Bool) =>
    if a1 = true then
      some 12
    else
      if p0.2.1 < 0 then
        some 2
      else
        jp (fun (a4 : Bool) =>
          if a4 = true then
            some 4
          else
            lpO (loopW (S := Int) (X := Ou (Unit) (Int)) (fun a7 =>
                if a7 < ((p0.2.2).length : Int) then
                  (idx p0.2.2 a7).bind fun x11 =>
                  jp (fun (a14 : Bool) =>
                    if a14 = true then
                      some (Stp.exit (Ou.ret 2))
                    else
                      jp (fun (a17 : Bool) =>
                        if a17 = true then
                          some (Stp.exit (Ou.ret 10))
                        else
                          some (Stp.next (IntKind.wrap .i64 (a7 + 1))))
                        fun k19 =>
                        if 0 < a7 then
                          (idx p0.2.2 (IntKind.wrap .i64 (a7 - 1))).bind fun x20 =>
                          (m_graph_by_api_Edge_1 x20 x11).bind fun x22 =>
                          k19 (decide (0 ≤ x22))
                        else
                          k19 false)
                    fun k16 =>
                    if (min (min x11.1 x11.2.1) x11.2.2) < 0 then
                      k16 true
                    else
                      if p0.2.1 ≤ (max x11.1 x11.2.2) then
                        k16 true
                      else
                        k16 (decide (p0.1 ≤ x11.2.1))
                else
                  some (Stp.exit (Ou.go ()))) 0) (fun a27 =>
                some 0) some)
          fun k6 =>
          if 64 < p0.2.1 then
            k6 true
          else
            k6 (decide (1024 < ((p0.2.2).length : Int))))
    fun k3 =>
    if p0.1 < 1 then
      k3 true
    else
      k3 (decide (256 < p0.1))

noncomputable def m_graph_checkSet (p0 : TLabelsStatesEdges) (p1 : List (Int)) : Option (Int) :=
  lpO (loopW (S := Int) (X := Ou (Unit) (Int)) (fun a1 =>
      if a1 < ((p1).length : Int) then
        (idx p1 a1).bind fun x5 =>
        jp (fun (a7 : Bool) =>
          if a7 = true then
            some (Stp.exit (Ou.ret 25))
          else
            jp (fun (a10 : Bool) =>
              if a10 = true then
                some (Stp.exit (Ou.ret 10))
              else
                some (Stp.next (IntKind.wrap .i64 (a1 + 1))))
              fun k12 =>
              if 0 < a1 then
                (idx p1 (IntKind.wrap .i64 (a1 - 1))).bind fun x13 =>
                k12 (decide (x5 ≤ x13))
              else
                k12 false)
          fun k9 =>
          if x5 < 0 then
            k9 true
          else
            k9 (decide (p0.2.1 ≤ x5))
      else
        some (Stp.exit (Ou.go ()))) 0) (fun a17 =>
      some 0) some

noncomputable def m_graph_Step (p0 : TLabelsStatesEdges) (p1 : List (Int)) (p2 : Int) : Option ((List (Int)) × Int) :=
  (m_graph_Check p0).bind fun x1 =>
  if x1 ≠ 0 then
    some ([], 1)
  else
    (m_graph_checkSet p0 p1).bind fun x3 =>
    if x3 ≠ 0 then
      some ([], x3)
    else
      jp (fun (a5 : Bool) =>
        if a5 = true then
          some ([], 2)
        else
          (loopW (S := Int × (List Int)) (X := (List Int)) (fun a9 =>
              if a9.1 < ((p1).length : Int) then
                (idx p1 a9.1).bind fun x13 =>
                (y_graph_leaving p0 x13).bind fun L15 =>
                lpO (forL (S := (List Int)) (X := Unit) (fun a17 (x19 : Int × TFromLabelTo) =>
                    if x19.2.2.1 = p2 then
                      if fits 8 ((a17 : List Int).length + ([x19.2.2.2]).length) then
                        some (Stp.next (a17 ++ [x19.2.2.2]))
                      else none
                    else
                      some (Stp.next a17)) L15 a9.2) (fun a26 =>
                    some (Stp.next (IntKind.wrap .i64 (a9.1 + 1), a26))) fun a28 =>
                    none
              else
                some (Stp.exit a9.2)) (0, ([] : List Int))).bind fun a31 =>
          if (a31).length < 4611686018427387904 then
            some (compact_ (sortI a31), 0)
          else none)
        fun k7 =>
        if p2 < 0 then
          k7 true
        else
          k7 (decide (p0.1 ≤ p2))

noncomputable def m_ref09_Compare (p0 : TFromLabelTo) (p1 : TFromLabelTo) : Option (Int) :=
  lpO (loopW (S := Int) (X := Ou (Unit) (Int)) (fun a1 =>
      if a1 < 3 then
        (idx [p0.1, p0.2.1, p0.2.2] a1).bind fun x5 =>
        (idx [p1.1, p1.2.1, p1.2.2] a1).bind fun x7 =>
        if x5 < x7 then
          some (Stp.exit (Ou.ret (-1)))
        else
          (idx [p0.1, p0.2.1, p0.2.2] a1).bind fun x9 =>
          (idx [p1.1, p1.2.1, p1.2.2] a1).bind fun x11 =>
          if x11 < x9 then
            some (Stp.exit (Ou.ret 1))
          else
            some (Stp.next (IntKind.wrap .i64 (a1 + 1)))
      else
        some (Stp.exit (Ou.go ()))) 0) (fun a13 =>
      some 0) some

noncomputable def m_ref09_Check (p0 : TLabelsStatesEdges) : Option (Int) :=
  jp (fun (a1 : Bool) =>
    if a1 = true then
      some 12
    else
      if p0.2.1 < 0 then
        some 2
      else
        jp (fun (a4 : Bool) =>
          if a4 = true then
            some 4
          else
            lpO (loopW (S := Int) (X := Ou (Unit) (Int)) (fun a7 =>
                if a7 < ((p0.2.2).length : Int) then
                  (idx p0.2.2 a7).bind fun x11 =>
                  jp (fun (a14 : Bool) =>
                    if a14 = true then
                      some (Stp.exit (Ou.ret 2))
                    else
                      jp (fun (a17 : Bool) =>
                        if a17 = true then
                          some (Stp.exit (Ou.ret 10))
                        else
                          some (Stp.next (IntKind.wrap .i64 (a7 + 1))))
                        fun k19 =>
                        if 0 < a7 then
                          (idx p0.2.2 (IntKind.wrap .i64 (a7 - 1))).bind fun x20 =>
                          (m_ref09_Compare x20 x11).bind fun x22 =>
                          k19 (decide (0 ≤ x22))
                        else
                          k19 false)
                    fun k16 =>
                    if x11.1 < 0 then
                      k16 true
                    else
                      if p0.2.1 ≤ x11.1 then
                        k16 true
                      else
                        if x11.2.2 < 0 then
                          k16 true
                        else
                          if p0.2.1 ≤ x11.2.2 then
                            k16 true
                          else
                            if x11.2.1 < 0 then
                              k16 true
                            else
                              k16 (decide (p0.1 ≤ x11.2.1))
                else
                  some (Stp.exit (Ou.go ()))) 0) (fun a30 =>
                some 0) some)
          fun k6 =>
          if 64 < p0.2.1 then
            k6 true
          else
            k6 (decide (1024 < ((p0.2.2).length : Int))))
    fun k3 =>
    if p0.1 < 1 then
      k3 true
    else
      k3 (decide (256 < p0.1))

noncomputable def m_language_step (p0 : TLabelsStatesEdges) (p1 : List (Int)) (p2 : Int) : Option ((List (Int))) :=
  (m_strings_IndexByte [48, 49, 50, 51, 52, 53, 54, 55, 56, 57, 97, 98, 99, 100, 101, 102] p2).bind fun x1 =>
  (m_graph_Step p0 p1 x1).bind fun x3 =>
  some x3.1

noncomputable def m_language_states (p0 : TLabelsStatesEdges) : Option ((List (Int))) :=
  if 0 ≤ (p0.2.1 : Int) ∧ (p0.2.1 : Int) ≤ p0.2.1 ∧ (p0.2.1 : Int) * 8 ≤ 281474976710656 then
    (loopW (S := Int × (List Int)) (X := (List Int)) (fun a3 =>
        if a3.1 < (((List.replicate (p0.2.1).toNat (0 : Int)).length : Nat) : Int) then
          (idx a3.2 a3.1).bind fun x7 =>
          some (Stp.next (IntKind.wrap .i64 (a3.1 + 1), (a3.2).set (a3.1).toNat a3.1))
        else
          some (Stp.exit a3.2)) (0, List.replicate (p0.2.1).toNat (0 : Int))).bind fun a9 =>
    some a9
  else none

noncomputable def m_language_check (p0 : TLabelsStatesEdges) : Option (Int) :=
  (m_graph_Check p0).bind fun x1 =>
  if x1 ≠ 0 then
    some 1
  else
    if 16 < p0.1 then
      some 12
    else
      some 0

noncomputable def m_word_known (p0 : Int) : Option (Bool) :=
  jp (fun (a1 : Bool) =>
    some a1)
    fun k3 =>
    if 1 ≤ p0 then
      k3 (decide (p0 ≤ 16))
    else
      k3 false

noncomputable def m_word_Check (p0 : Int) (p1 : List UInt8) : Option (Int) :=
  (m_word_known p0).bind fun x1 =>
  if (!x1) = true then
    some 12
  else
    if 65536 < ((p1).length : Int) then
      some 4
    else
      lpO (loopW (S := Int) (X := Ou (Unit) (Int)) (fun a3 =>
          if a3 < ((p1).length : Int) then
            if 0 ≤ (0 : Int) ∧ (0 : Int) ≤ p0 ∧ p0 ≤ (([48, 49, 50, 51, 52, 53, 54, 55, 56, 57, 97, 98, 99, 100, 101, 102] : List UInt8).length : Int) then
              (idx p1 a3).bind fun x8 =>
              (m_strings_IndexByte ((([48, 49, 50, 51, 52, 53, 54, 55, 56, 57, 97, 98, 99, 100, 101, 102] : List UInt8).take (p0).toNat).drop (0 : Int).toNat) (x8.toNat : Int)).bind fun x10 =>
              if x10 < 0 then
                some (Stp.exit (Ou.ret 13))
              else
                some (Stp.next (IntKind.wrap .i64 (a3 + 1)))
            else none
          else
            some (Stp.exit (Ou.go ()))) 0) (fun a12 =>
          some 0) some

noncomputable def m_language_spells (p0 : TLabelsStatesEdges) (p1 : List UInt8) : Option (Int) :=
  (m_language_check p0).bind fun x1 =>
  if x1 ≠ 0 then
    some x1
  else
    (m_word_Check p0.1 p1).bind fun x3 =>
    some x3

end Go.AW

/- What functions of the library compute that chapter 11 uses (not printed). -/
namespace Go.AW
open Go
def m_strings_Repeat (s : List UInt8) (n : Int) : Option (List UInt8) := if 0 ≤ n ∧ n ≤ 9223372036854775807 ∧ s.length * n.toNat ≤ 140737488355328 then some (List.replicate n.toNat s).flatten else none
end Go.AW

namespace Go.AW
open Go

def letters : List UInt8 := [48, 49, 50, 51, 52, 53, 54, 55, 56, 57, 97, 98, 99, 100, 101, 102]

section
variable {stp : List Int → UInt8 → List Int} {cs : List UInt8} {set : List Int}

end

end Go.AW

/- Marks: what follows a number of letters that have been read; places; bad words. -/
namespace Go.AW
open Go
def fgo (mark w : List UInt8) : Nat → Nat
  | 0 => 0
  | n + 1 => if (mark.take (n + 1)).isSuffixOf w then n + 1 else fgo mark w n
def foll (mark : List UInt8) (k : Nat) (c : UInt8) : Nat := fgo mark (mark.take k ++ [c]) (min (mark.take k ++ [c]).length mark.length)
abbrev TStateReadBadLeft := Int × Int × Bool × Int
abbrev cStateReadBadLeft (x : TStateReadBadLeft) : List HV := [HV.int .i64 x.1, HV.int .i64 x.2.1, HV.bool x.2.2.1, HV.int .i64 x.2.2.2]
abbrev eStateReadBadLeft : EncL TStateReadBadLeft := encF 4 cStateReadBadLeft (fun _ => rfl)
abbrev TGMarkTableNextMemo := TLabelsStatesEdges × (List UInt8) × (List Int) × (List (List TFromLabelTo)) × (Nat × Nat)
abbrev cGMarkTableNextMemo (x : TGMarkTableNextMemo) : List HV := [HV.int .i64 x.1.1, HV.int .i64 x.1.2.1, slE eFromLabelTo x.1.2.2, HV.str x.2.1, HV.sl 16 ((x.2.2.1).length / 16) (eInt.E x.2.2.1), slE (eSl eFromLabelTo) x.2.2.2.1, HV.mp x.2.2.2.2.1 x.2.2.2.2.2]
def letB (a : Int) : UInt8 := letters.getD a.toNat 0
def stepF (mark : List UInt8) (p : TStateReadBadLeft) (x : TFromLabelTo) : TStateReadBadLeft :=
  (x.2.2, (foll mark p.2.1.toNat (letB x.2.1) : Int), p.2.2.1 || decide (foll mark p.2.1.toNat (letB x.2.1) = mark.length), p.2.2.2 - 1)
def endsG (mark : List UInt8) : List UInt8 → Nat → Bool
  | [], _ => false
  | c :: cs, n => if foll mark n c = mark.length ∧ cs ≠ [] then true else endsG mark cs (foll mark n c)
def endsF (mark : List UInt8) (p : TStateReadBadLeft) : Bool := endsG mark mark p.2.1.toNat || p.2.2.1
def leav (E : List TFromLabelTo) (s : Int) : List TFromLabelTo := E.filter fun x => decide (x.1 = s)
def canF (E : List TFromLabelTo) (mark : List UInt8) : Nat → TStateReadBadLeft → Bool
  | 0, p => endsF mark p
  | n + 1, p => (leav E p.1).any fun x => canF E mark n (stepF mark p x)
def canP (E : List TFromLabelTo) (mark : List UInt8) (p : TStateReadBadLeft) : Bool := canF E mark p.2.2.2.toNat p
section
variable (f : TStateReadBadLeft → Bool) (stp : TStateReadBadLeft → TFromLabelTo → TStateReadBadLeft) (nx : Int → List TFromLabelTo)
def aft1 (a : Int) (p : TStateReadBadLeft) (acc : List TStateReadBadLeft) (x : TFromLabelTo) : List TStateReadBadLeft :=
  if x.2.1 = a then if stp p x ∈ acc then acc else if f (stp p x) = true then acc ++ [stp p x] else acc else acc
def aftP (a : Int) (acc : List TStateReadBadLeft) (p : TStateReadBadLeft) : List TStateReadBadLeft := (nx p.1).foldl (aft1 f stp a p) acc
def aft (now : List TStateReadBadLeft) (a : Int) : List TStateReadBadLeft := now.foldl (aftP f stp nx a) []
def firstA (now : List TStateReadBadLeft) : List Int → Option (Int × List TStateReadBadLeft)
  | [] => none
  | a :: q => if aft f stp nx now a ≠ [] then some (a, aft f stp nx now a) else firstA now q
def growF (L : Int) : Nat → List TStateReadBadLeft → List UInt8
  | 0, _ => []
  | n + 1, now => match firstA f stp nx now ((List.range L.toNat).map Int.ofNat) with
    | none => []
    | some (a, l) => letB a :: growF L n l
end
def startF (g : TLabelsStatesEdges) (mark : List UInt8) (n : Int) : List TStateReadBadLeft :=
  ((List.range g.2.1.toNat).map fun (t : Nat) => (((t : Int), (mark.length : Int), false, n) : TStateReadBadLeft)).filter fun p => canP g.2.2 mark p
def badF (g : TLabelsStatesEdges) (mark : List UInt8) (n : Int) : List UInt8 × Bool :=
  if startF g mark n = [] then ([], false) else (growF (canP g.2.2 mark) (stepF mark) (leav g.2.2) g.1 n.toNat (startF g mark n), true)
def badOk (g : TLabelsStatesEdges) (mark : List UInt8) (n : Int) : Prop :=
  (0 ≤ g.1 ∧ g.1 ≤ 16) ∧ (0 ≤ g.2.1 ∧ g.2.1 ≤ 64) ∧ g.2.2.length ≤ 1024 ∧ (∀ x ∈ g.2.2, (0 ≤ x.1 ∧ x.1 < g.2.1) ∧ (0 ≤ x.2.1 ∧ x.2.1 < g.1) ∧ 0 ≤ x.2.2 ∧ x.2.2 < g.2.1) ∧
  mark ≠ [] ∧ mark.length ≤ 1000 ∧ (∀ c ∈ mark, c ∈ letters) ∧ 0 ≤ n ∧ n ≤ 1000000
instance (g : TLabelsStatesEdges) (mark : List UInt8) (n : Int) : Decidable (badOk g mark n) := by unfold badOk; infer_instance
def m_syncmark_bad (g : TLabelsStatesEdges) (mark : List UInt8) (n : Int) : Option (List UInt8 × Bool) :=
  if badOk g mark n then some (badF g mark n) else none
def m_law54_awake : Option Bool := some true
end Go.AW

/- What language.list computes: the words level by level, each with its ends. -/
namespace Go.AW
open Go
end Go.AW

/- Models, printed by lk.py. -/
namespace Go.AW
open Go
set_option linter.unusedVariables false
noncomputable def m_slices_Equal_Lint_int (p0 : List (Int)) (p1 : List (Int)) : Option (Bool) :=
  if ((p0).length : Int) ≠ ((p1).length : Int) then
    some false
  else
    lpO (loopW (S := Int) (X := Ou (Unit) (Bool)) (fun a1 =>
        if a1 < ((p0).length : Int) then
          (idx p0 a1).bind fun x5 =>
          (idx p1 a1).bind fun x7 =>
          if x5 ≠ x7 then
            some (Stp.exit (Ou.ret false))
          else
            some (Stp.next (IntKind.wrap .i64 (a1 + 1)))
        else
          some (Stp.exit (Ou.go ()))) 0) (fun a9 =>
        some true) some

noncomputable def m_language_ends (p0 : TLabelsStatesEdges) (p1 : List (Int)) (p2 : List UInt8) : Option ((List (Int))) :=
  (loopW (S := (List Int) × Int) (X := (List Int)) (fun a1 =>
      jp (fun (a5 : Bool) =>
        if a5 = true then
          (idx p2 a1.2).bind fun x8 =>
          (m_language_step p0 a1.1 (x8.toNat : Int)).bind fun x10 =>
          some (Stp.next (x10, IntKind.wrap .i64 (a1.2 + 1)))
        else
          some (Stp.exit a1.1))
        fun k7 =>
        if a1.2 < ((p2).length : Int) then
          k7 (decide (0 < ((a1.1).length : Int)))
        else
          k7 false) (p1, 0)).bind fun a13 =>
  some a13

noncomputable def m_language_Accepts (p0 : TLabelsStatesEdges) (p1 : List UInt8) : Option (Bool × Int) :=
  (m_language_spells p0 p1).bind fun x1 =>
  if x1 ≠ 0 then
    some (false, x1)
  else
    (m_language_states p0).bind fun x3 =>
    (m_language_ends p0 x3 p1).bind fun x5 =>
    some (decide (0 < ((x5).length : Int)), 0)

end Go.AW

/- Models, printed by lk.py. -/
namespace Go.AW
open Go
set_option linter.unusedVariables false
noncomputable def m_syncmark_search_step (p0 : TGMarkTableNextMemo) (p1 : TStateReadBadLeft) (p2 : TFromLabelTo) : Option (TStateReadBadLeft) :=
 if 0 ≤ (p1.2.1 : Int) ∧ (p1.2.1 : Int) < (((p0.2.2.1).length / 16 : Nat) : Int) then
  if 0 ≤ (p2.2.1 : Int) ∧ (p2.2.1 : Int) < 16 then
   ((p0.2.2.1)[(p1.2.1).toNat * 16 + (p2.2.1).toNat * 1]?).bind fun x4 =>
   jp (fun (a6 : Bool) =>
     some (p2.2.2, x4, a6, IntKind.wrap .i64 (p1.2.2.2 - 1)))
     fun k8 =>
    if p1.2.2.1 = true then
     k8 true
    else
     k8 (decide (x4 = ((p0.2.1).length : Int)))
  else none
 else none

noncomputable def m_syncmark_search_ends (p0 : TGMarkTableNextMemo) (p1 : TStateReadBadLeft) : Option (Bool) :=
 lpO (loopW (S := Int × Int) (X := Ou (Unit) (Bool)) (fun a1 =>
     if a1.2 < ((p0.2.1).length : Int) then
      (idx p0.2.1 a1.2).bind fun x5 =>
      (m_strings_IndexByte [48, 49, 50, 51, 52, 53, 54, 55, 56, 57, 97, 98, 99, 100, 101, 102] (x5.toNat : Int)).bind fun x7 =>
      if 0 ≤ (a1.1 : Int) ∧ (a1.1 : Int) < (((p0.2.2.1).length / 16 : Nat) : Int) then
       if 0 ≤ (x7 : Int) ∧ (x7 : Int) < 16 then
        ((p0.2.2.1)[(a1.1).toNat * 16 + (x7).toNat * 1]?).bind fun x11 =>
        jp (fun (a13 : Bool) =>
          if a13 = true then
           some (Stp.exit (Ou.ret true))
          else
           some (Stp.next (x11, IntKind.wrap .i64 (a1.2 + 1))))
          fun k15 =>
         if x11 = ((p0.2.1).length : Int) then
          k15 (decide (a1.2 < (IntKind.wrap .i64 (((p0.2.1).length : Int) - 1))))
         else
          k15 false
       else none
      else none
     else
      some (Stp.exit (Ou.go ()))) (p1.2.1, 0)) (fun a17 =>
     some p1.2.2.1) some

noncomputable def m_internal_stringslite_HasSuffix (p0 : List UInt8) (p1 : List UInt8) : Option (Bool) :=
 jp (fun (a1 : Bool) =>
   some a1)
   fun k3 =>
  if ((p1).length : Int) ≤ ((p0).length : Int) then
   if 0 ≤ (IntKind.wrap .i64 (((p0).length : Int) - ((p1).length : Int)) : Int) ∧ (IntKind.wrap .i64 (((p0).length : Int) - ((p1).length : Int)) : Int) ≤ ((p0).length : Int) ∧ ((p0).length : Int) ≤ (p0.length : Int) then
    k3 (decide (((p0.take (((p0).length : Int)).toNat).drop (IntKind.wrap .i64 (((p0).length : Int) - ((p1).length : Int))).toNat) = p1))
   else none
  else
   k3 false

noncomputable def m_strings_HasSuffix (p0 : List UInt8) (p1 : List UInt8) : Option (Bool) :=
 (m_internal_stringslite_HasSuffix p0 p1).bind fun x1 =>
 some x1

end Go.AW

/- Lockstep walks: a call whose body is walked in its place, with what the caller owns. -/
namespace Go.AW
open Go
section
variable {P : Program} {ro : Option Nat} {N : Nat} {s : AS} {o : Oper} {sl : List (Nat × HV)} {H : Heap} {all : Array Oper} {rest l : List Oper} {K : AS → Prop} {Q : Exit → AS → Prop}

theorem AW.fin {c : Code} (h : AW P ro N c (thenQ (fun s' => s'.to (Q .normal)) Q) s) : AW P ro N c Q s := by
  intro w0 μ0 μ a w hs hE
  refine wpIn_mono (h w0 μ0 μ a w hs hE) ?_
  rintro e a' w' ⟨h1, h2, μ', s', h3, h4, h5⟩
  cases e with
  | normal =>
    obtain ⟨μ2, t, ht, hs2, E2⟩ := h3 ro N w0.heap.size μ' a' w' h4
    exact ⟨h1, h2, μ2, t, ht, hs2, h5.trans E2⟩
  | exit id => exact ⟨h1, h2, μ', s', h3, h4, h5⟩
  | goto l => exact ⟨h1, h2, μ', s', h3, h4, h5⟩
  | ret => exact ⟨h1, h2, μ', s', h3, h4, h5⟩
  | panic ch => exact absurd rfl (h1 ch)
  | outgrown => exact absurd rfl h2

theorem resAll_mono : ∀ {rvs : List ResultVar} {F G : List HV → Prop}, resAll P s rvs F → (∀ h, F h → G h) → resAll P s rvs G := by
  intro rvs
  induction rvs with
  | nil => intro F G h hg; exact hg _ h
  | cons rv rvs ih =>
    intro F G h hg
    have one : ∀ {R R' : HV → Prop}, resOne P s rv R → (∀ v, R v → R' v) → resOne P s rv R' := by
      intro R R' h hr
      unfold resOne at h ⊢
      split at h
      · split at h
        · exact hr _ h
        · exact h.elim
      · split at h
        · exact loadK_mono h hr
        · split at h
          · exact ⟨h.1, loadK_mono h.2 hr⟩
          · exact h.elim
        · exact h.elim
    exact one h fun v hv => ih hv fun hs => hg _

end
end Go.AW

/- Maps: looking up with an answer whether there is an entry; deleting while the map is ranged over. -/
namespace Go.AW
open Go Go.MapKept
section
variable {P : Program} {ro : Option Nat} {N : Nat} {s : AS} {w w' : World} {μ : Mu} {H : Heap}

section
variable {o : Oper} {sl : List (Nat × HV)} {H : Heap} {all : Array Oper} {rest : List Oper} {K : AS → Prop} {β : Type}
theorem b_opX (hg : o.guard = none) (h : okd N o.dst = true → AOp P ro N o (fun s' => bops P ro N all rest K s') ⟨sl, H⟩) : bops P ro N all (o :: rest) K ⟨sl, H⟩ := by
  intro hok i hl
  obtain ⟨ho, hN, hl'⟩ := b_step hok hl
  rw [List.length_cons, List.range'_succ]
  refine AOps.cons ho hg fun w0 μ0 μ a w next Q hs hE hK => ?_
  exact h hN w0 μ0 μ a w next Q hs hE fun μ' s' a' w' hk hs' hE' => hK μ' s' a' w' (hk hok (i + 1) hl') hs' hE'

theorem one_opX {G : AS → Prop} {s : AS} (hk : AOp P ro N o (fun s' => bops P ro N #[] [] G s') s) : AOp P ro N o G s := by
  intro w0 μ0 μ a w next Q hs hE hK
  refine hk w0 μ0 μ a w next Q hs hE fun μ' s' a' w' h' hs' hE' => ?_
  have hb := h' (by simp) 0 (fun k => by simp)
  have := hb w0 μ0 μ' a' w' (fun _ a w => next a w) hs' hE' (fun μ2 s2 a2 w2 hk2 hs2 hE2 => hK μ2 s2 a2 w2 hk2 hs2 hE2)
  simpa only [List.length_nil, List.range'_zero, wpOpsIn] using this
theorem y_opX {ops : Array Oper} {s : AS} {q : Nat} (hc : (daOk ops && Nat.ble (q + 1) ops.size && waitOk ops q (q + 1)) = true) (ho : ops[q]? = some o) (hg : o.guard = none) (hN : okd N o.dst = true)
    (h : okd N o.dst = true → AOp P ro N o (fun s' => bops P ro N #[] [] (nyops P ro N ops K (q + 1)) s') s) : nyops P ro N ops K q s := by
  simp only [Bool.and_eq_true] at hc
  obtain ⟨⟨h1, h2⟩, h3⟩ := hc
  exact AnyAt.op h1 (Nat.le_of_ble_eq_true h2) h3 (AOpI.plain ho hg (one_opX (h hN)))
end

end
end Go.AW

/- Regions that draw their order, by the sets of the operations that are done. -/
namespace Go.AW
open Go
section
variable {P : Program} {ro : Option Nat} {N : Nat} {s : AS} {ops : Array Oper} {o : Oper} {K : AS → Prop} {G : AS → Prop} {F : List Nat → AS → Prop} {L : List Nat}

def AnyL (P : Program) (ro : Option Nat) (N : Nat) (ops : Array Oper) (K : AS → Prop) (L : List Nat) (s : AS) : Prop :=
  ∀ (w0 : World) (μ0 : Mu) (fuel : Nat) (listed : Array Bool) (μ1 : Mu) (a1 : Act) (w1 : World), listed.size = ops.size → cnt listed ≤ fuel → (∀ i, i < ops.size → listed.getD i false = L.contains i) →
    SRel ro N w0.heap.size μ1 s a1 w1 → Evo w0 μ0 w1 μ1 → wpAnyIn (fence ro) 0 P .any ops (Post ro N (fun e s' => e = .normal ∧ K s') w0 μ0) fuel listed a1 w1

def readyL (ops : Array Oper) (L : List Nat) : List Nat := (List.range ops.size).filter fun i => !L.contains i && (da ops i).all L.contains
def allR : List Nat → (Nat → Prop) → Prop
  | [], _ => True
  | i :: l, f => f i ∧ allR l f
theorem allR_mem {f : Nat → Prop} : ∀ {l : List Nat}, allR l f → ∀ i ∈ l, f i
  | [], _, _, h => by cases h
  | j :: l, h, i, hi => by
    rcases List.mem_cons.1 hi with rfl | hi
    · exact h.1
    · exact allR_mem h.2 i hi

theorem l_step (hF : F = AnyL P ro N ops K) (hda : daOk ops = true) (rs : List Nat) (hr : readyL ops L = rs) (hne : rs.isEmpty = false) (h : allR rs fun i => AOpI P ro N ops i (F (i :: L)) s) : F L s := by
  subst hF
  intro w0 μ0 fuel listed μ1 a1 w1 hl hc hlist hs hE
  have hda' := daOk_spec hda
  obtain ⟨q, hq⟩ : ∃ q, q ∈ rs := by
    cases rs with
    | nil => cases hne
    | cons q l => exact ⟨q, List.mem_cons_self ..⟩
  have hq' := hq
  rw [← hr] at hq'
  simp only [readyL, List.mem_filter, List.mem_range, Bool.and_eq_true, Bool.not_eq_true', List.all_eq_true] at hq'
  obtain ⟨hqs, hqL, hqd⟩ := hq'
  have hqn : listed.getD q false = false := by rw [hlist q hqs]; exact hqL
  cases fuel with
  | zero =>
    have := cnt_pos (listed := listed) (i := q) (by rw [getD_tf (by omega)]; exact hqn)
    omega
  | succ fuel =>
    refine ⟨fun hr0 => ?_, fun i hi => ?_⟩
    · exfalso
      have : q ∈ Region.ready .any ops listed := by
        refine mem_ready.2 ⟨by rw [getD_tf (by omega)]; exact hqn, ops[q], by simp [hqs], fun e he hb => ?_⟩
        have hk : e.on ∈ da ops q := by
          simp only [da, Array.getElem?_eq_getElem hqs, List.mem_map, List.mem_filter]
          exact ⟨e, ⟨by simpa using he, hb⟩, rfl⟩
        rw [hlist _ (Nat.lt_trans (hda' q hqs _ hk) hqs)]
        exact hqd _ hk
      rw [hr0] at this
      cases this
    · have hdone := deps_done hi
      obtain ⟨h0, o, ho, _⟩ := mem_ready.1 hi
      have his := (Array.getElem?_eq_some_iff.1 ho).1
      have h0' := h0
      rw [getD_tf (by omega), hlist i his] at h0'
      have hir : i ∈ rs := by
        rw [← hr]
        simp only [readyL, List.mem_filter, List.mem_range, Bool.and_eq_true, Bool.not_eq_true', List.all_eq_true]
        refine ⟨his, h0', fun k hk => ?_⟩
        rw [← hlist k (Nat.lt_trans (hda' i his k hk) his)]
        exact hdone k hk
      refine allR_mem h i hir w0 μ0 μ1 a1 w1 _ _ hs hE fun μ2 s2 a2 w2 hk hs2 hE2 => hk w0 μ0 fuel _ μ2 a2 w2 (by simp [hl]) ?_ (fun k hk => ?_) hs2 hE2
      · have := cnt_set (listed := listed) (i := i) h0
        omega
      · by_cases hki : i = k
        · subst hki
          have : i < listed.size := by omega
          simp [this]
        · rw [getD_set_ne false hki, hlist k hk]
          simp only [List.contains_cons]
          have : (k == i) = false := by simpa using fun e => hki e.symm
          rw [this, Bool.false_or]

theorem l_done (hF : F = AnyL P ro N ops K) (hda : daOk ops = true) (hall : (List.range ops.size).all L.contains = true) (h : K s) : F L s := by
  subst hF
  intro w0 μ0 fuel listed μ1 a1 w1 hl hc hlist hs hE
  have ha : AnyAt P ro N ops (fun e s' => e = .normal ∧ K s') ops.size s := AnyAt.done hda ⟨rfl, h⟩
  refine ha w0 μ0 fuel listed μ1 a1 w1 hl hc (fun i hi => ?_) hs hE
  rw [hlist i hi, decide_eq_true hi]
  exact List.all_eq_true.1 hall i (List.mem_range.2 hi)

theorem l_go {L' : List Nat} {s' : AS} (hF : F = AnyL P ro N ops K) (hsame : (List.range ops.size).all (fun i => L.contains i == L'.contains i) = true) (h : F L' s') (hle : s.le s') : F L s := by
  subst hF
  intro w0 μ0 fuel listed μ1 a1 w1 hl hc hlist hs hE
  refine h w0 μ0 fuel listed (μ1.cut s'.heap) a1 w1 hl hc (fun i hi => ?_) (hs.weaken hle) (hE.trans (Evo.cut w1 μ1 s'.heap))
  rw [hlist i hi]
  exact eq_of_beq (List.all_eq_true.1 hsame i (List.mem_range.2 hi))

theorem l_one {fid : Nat} {mt : List Nat} (hN : okd N o.dst = true) (h : aop P fid mt o (fun s' => bops P ro N #[] [] G s') s) : AOp P ro N o G s := by
  have hk : AOp P ro N o _ s := aop_sound hN h
  intro w0 μ0 μ a w next Q hs hE hK
  refine hk w0 μ0 μ a w next Q hs hE fun μ' s' a' w' h' hs' hE' => ?_
  have hb := h' (by simp) 0 (fun k => by simp)
  have := hb w0 μ0 μ' a' w' (fun _ a w => next a w) hs' hE' (fun μ2 s2 a2 w2 hk2 hs2 hE2 => hK μ2 s2 a2 w2 hk2 hs2 hE2)
  simpa only [List.length_nil, List.range'_zero, wpOpsIn] using this
theorem l_op {i : Nat} {fid : Nat} {mt : List Nat} (ho : ops[i]? = some o) (hg : o.guard = none) (hN : okd N o.dst = true) (h : aop P fid mt o (fun s' => bops P ro N #[] [] G s') s) : AOpI P ro N ops i G s := AOpI.plain ho hg (l_one hN h)
theorem AW.dl {id : Nat} {Q : Exit → AS → Prop} (hm : P.follows .mixedOrders = true) (h : ∀ K : AS → Prop, (∀ s', Q .normal s' → K s') → ∀ F : List Nat → AS → Prop, F = AnyL P ro N ops K → F [] s) : AW P ro N (.region id ops true) Q s := by
  refine AW.conseq (Q' := fun e s' => e = .normal ∧ Q .normal s') (AW.any hm ?_) fun e s1 ⟨he, h⟩ => he ▸ ⟨s1, AS.le_refl s1, h⟩
  intro w0 μ0 fuel listed μ1 a1 w1 hl hc hlist hs hE
  exact h (Q .normal) (fun _ h => h) _ rfl w0 μ0 fuel listed μ1 a1 w1 hl hc (fun i hi => by rw [hlist i hi]; simp) hs hE
theorem AW.dls {id : Nat} {y : Code} {Q : Exit → AS → Prop} (hm : P.follows .mixedOrders = true) (h : ∀ K : AS → Prop, (∀ s', AW P ro N y Q s' → K s') → ∀ F : List Nat → AS → Prop, F = AnyL P ro N ops K → F [] s) : AW P ro N (.seq (.region id ops true) y) Q s :=
  AW.seq (AW.dl hm h)
end
end Go.AW

/- Regions that draw their order: an operation that looks at no world may be taken first. -/
namespace Go.AW
open Go

section
variable {P : Program} {ro : Option Nat} {N B : Nat} {s : AS} {μ : Mu} {a : Act} {w : World}
end

section
variable {P : Program} {N : Nat} {s : AS} {ops : Array Oper} {o : Oper} {K : AS → Prop} {F : List Nat → AS → Prop} {L : List Nat}
end
end Go.AW

/- Arrays of arrays in lockstep: an owned array in a place of an owned array of frozen ones (a place that is filled later). -/
namespace Go.AW
open Go

theorem SR.frzH {w : World} {μ : Mu} {H D H' : Heap} (n : Nat) (h : SR w μ H) (hD : ∀ id x, hget D id = some x → hget H id = some x ∧ hget H' id = none)
    (hs : ∀ id ver o, hget H' id = some (ver, o) → hget H id = some (ver, o) ∨ ∃ k e cs, hget H id = some (ver, .arr k e cs) ∧ o = .arr k e (cs.map (frz n D))) : SR w (μ.cut H') H' where
  ok := fun id ver b hb => h.ok id ver b (Mu.cut_some hb)
  has := fun id ver o ho => by
    rcases hs id ver o ho with h1 | ⟨k, e, cs, h1, rfl⟩
    · obtain ⟨l, hl, hor⟩ := h.has id ver o h1
      exact ⟨l, by simp [Mu.cut, ho, hl], hor.evo (Evo.cut w μ H') h.ok (fun _ _ => rfl) (fun _ _ _ _ _ _ _ _ => rfl)⟩
    · obtain ⟨l, hl, hor⟩ := h.has id ver _ h1
      refine ⟨l, by simp [Mu.cut, ho, hl], ?_⟩
      cases l with
      | none =>
        have : cs = [] := hor
        subst this
        exact (rfl : ([] : List HV).map (frz n D) = [])
      | some b =>
        obtain ⟨h0, cur, vs, rest, hrow, hcl, hrl⟩ := hor
        exact ⟨ones_frz h0, cur, vs, rest, hrow, hcl, RepL.mapF (fun c x _ => frz_rep h hD n c x) hrl⟩
  only := fun id x hx => by
    simp only [Mu.cut] at hx
    split at hx
    · rename_i hi; exact Option.isSome_iff_exists.1 hi
    · cases hx
  inj := fun i j v u b hi hj => h.inj i j v u b (Mu.cut_some hi) (Mu.cut_some hj)
  held := fun b hb => ⟨(h.held b hb).1, fun ⟨id, ver, hl⟩ => (h.held b hb).2 ⟨id, ver, Mu.cut_some hl⟩⟩

def leO (n : Nat) (D : Heap) (l : Heap) : Heap → Prop
  | [] => True
  | (i, v, o) :: l' => (hget l i = some (v, o) ∨ ∃ k e cs, hget l i = some (v, .arr k e cs) ∧ o = .arr k e (cs.map (frz n D))) ∧ leO n D l l'
theorem leO_get {n : Nat} {D l : Heap} : ∀ {l' : Heap}, leO n D l l' → ∀ t v o, hget l' t = some (v, o) → hget l t = some (v, o) ∨ ∃ k e cs, hget l t = some (v, .arr k e cs) ∧ o = .arr k e (cs.map (frz n D))
  | [], _, _, _, _, h => by cases h
  | (i, g, u) :: l', h, t, v, o, ht => by
    simp only [hget] at ht
    split at ht
    · rename_i e; subst e; cases ht; exact h.1
    · exact leO_get h.2 t v o ht

theorem to_fill {s : AS} {G : AS → Prop} (n : Nat) (D : Heap) (s' : AS) (h1 : leF n D s.slots s'.slots) (h2 : leO n D s.heap s'.heap) (h3 : leH s.heap D) (h4 : noneH s'.heap D) (h : G s') : s.to G := by
  intro ro N B μ a w hs
  have hD : ∀ id x, hget D id = some x → hget s.heap id = some x ∧ hget s'.heap id = none := fun id x hx => ⟨leH_get h3 id x hx, noneH_get h4 id x hx⟩
  refine ⟨μ.cut s'.heap, s', h, ⟨hs.size, hs.sr.frzH n hD (leO_get h2), fun t hv ht => ?_, hs.marks.evo (Evo.cut w μ s'.heap), hs.ro.evo (Evo.cut w μ s'.heap)⟩, Evo.cut w μ s'.heap⟩
  obtain ⟨g, hg, rfl⟩ := leF_get h1 t hv ht
  exact ⟨(hs.slot t g hg).1, frz_rep hs.sr hD n g _ (hs.slot t g hg).2⟩

theorem LeL.ones : ∀ {aa bs : List HV} (_ : LeL aa bs), ones aa → ones bs
  | _, _, .nil, h => h
  | _, _, .cons h h', h0 => fun c hc => by
    rcases List.mem_cons.1 hc with rfl | hc
    · have := h0 _ (List.mem_cons_self ..)
      cases h with
      | refl => exact this
      | nil => rfl
      | empty => rfl
    · exact LeL.ones h' (fun d hd => h0 d (List.mem_cons_of_mem _ hd)) c hc

section
variable {P : Program} {ro : Option Nat} {N : Nat} {all : Array Oper} {s : AS} {rest : List Oper} {o : Oper} {K : AS → Prop} {fid : Nat} {sl : List (Nat × HV)} {H : Heap}

theorem AOps.to {is : List Nat} (h : s.to (AOps P ro N all is K)) : AOps P ro N all is K s := fun w0 μ0 μ a w Q hs hE hK => by
  obtain ⟨μ1, t, ht, hs1, E1⟩ := h ro N w0.heap.size μ a w hs
  exact ht w0 μ0 μ1 a w Q hs1 (hE.trans E1) hK
theorem b_to {l : List Oper} (h : s.to (bops P ro N all l K)) : bops P ro N all l K s := fun hok i hi => AOps.to (to_mono h fun t ht => ht hok i hi)

end
end Go.AW

/- Tables whose elements are arrays of numbers, by their numbers in a row. -/
namespace Go.AW
open Go
section
variable {P : Program} {s : AS}
theorem v_arrF {t e : TypeId} {len a b : Nat} {z : Value} {x i : Operand} {k off : Nat} {cs : List HV} {k' : IntKind} {j : Int} (hT : ty P t = some ⟨.array len e, a, b, z⟩) (hE : elemSize P t = some k) (hx : s.ev x = some (.fptr cs off)) (hi : s.ev i = some (.int k' j)) (hj : 0 ≤ j ∧ j < len) :
    aval P (.indexAddr t x i) s (· = .fptr cs (off + j.toNat * k)) := by
  simp only [aval, hT, hE, hx, hi]
  exact ⟨hj.1, hj.2, trivial⟩
theorem v_arrP {t e : TypeId} {len a b : Nat} {z : Value} {x i : Operand} {k id ver off : Nat} {o : AObj} {k' : IntKind} {j : Int} (hT : ty P t = some ⟨.array len e, a, b, z⟩) (hE : elemSize P t = some k) (hx : s.ev x = some (.ptr id ver off)) (hi : s.ev i = some (.int k' j)) (hj : 0 ≤ j ∧ j < len) (hg : hget s.heap id = some (ver, o)) :
    aval P (.indexAddr t x i) s (· = .ptr id ver (off + j.toNat * k)) := by
  simp only [aval, hT, hE, hx, hi]
  exact ⟨hj.1, hj.2, by simp only [alive, hg], trivial⟩
end
theorem l_flat {T : TyI} {l : List Int} {off : Nat} {y : Int} (h : l[off]? = some y) (ha : aggD T.desc = false) : loadK T (eInt.E l) off (· = .int .i64 y) :=
  l_lit ha (by show (l.map _)[off]? = _; rw [List.getElem?_map, h]; rfl)
theorem frz_flat {id v k n : Nat} {e : TypeId} {l : List Int} (h : (eInt.E l).length = n * k) : frz 2 [(id, v, .arr k e (eInt.E l))] (.ar id v k 0 n) = .sl k n (eInt.E l) := by
  have hm : (eInt.E l).map (frz 1 [(id, v, .arr k e (eInt.E l))]) = eInt.E l := by
    show (l.map _).map _ = l.map _
    rw [List.map_map]
    rfl
  simp only [frz, hget, if_true]
  rw [if_pos ⟨trivial, by omega⟩, List.drop_zero, ← h, List.take_length]
  exact congrArg _ hm
end Go.AW

/- Bytes in owned arrays: append of a text. -/
namespace Go.AW
open Go
abbrev eByte : EncL UInt8 := encM fun b => HV.int .u8 (b.toNat : Int)
section
variable {P : Program} {ro : Option Nat} {N : Nat} {s : AS} {o : Oper} {sl : List (Nat × HV)} {H : Heap} {all : Array Oper} {rest : List Oper} {K : AS → Prop}
end
end Go.AW

namespace Go.AW
open Go Go.Proofs
set_option linter.unusedVariables false
set_option maxHeartbeats 1600000 in
set_option maxRecDepth 100000 in
theorem w_syncmark_search_step {p0 : TGMarkTableNextMemo} {p1 : TStateReadBadLeft} {p2 : TFromLabelTo} {r : TStateReadBadLeft} (h : m_syncmark_search_step p0 p1 p2 = some r) : Pure Try.prog 57 [HV.fptr [HV.int .i64 p0.1.1, HV.int .i64 p0.1.2.1, slE eFromLabelTo p0.1.2.2, HV.str p0.2.1, HV.sl 16 ((p0.2.2.1).length / 16) (eInt.E p0.2.2.1), slE (eSl eFromLabelTo) p0.2.2.2.1, HV.mp p0.2.2.2.2.1 p0.2.2.2.2.2] 0, HV.agg [HV.int .i64 p1.1, HV.int .i64 p1.2.1, HV.bool p1.2.2.1, HV.int .i64 p1.2.2.2], HV.agg [HV.int .i64 p2.1, HV.int .i64 p2.2.1, HV.int .i64 p2.2.2]] (· = HV.agg [HV.int .i64 r.1, HV.int .i64 r.2.1, HV.bool r.2.2.1, HV.int .i64 r.2.2.2]) := by
 unfold m_syncmark_search_step at h
 refine Pure.of_body Try.func57 rfl rfl (Nat.le_of_ble_eq_true rfl) fun hf => ?_
 unfold Try.f57
 dsimp only [enumS, Nat.reduceAdd]
 refine AW.rgs rfl fun K hK => ?_
 refine b_op rfl (o_box rfl rfl rfl ?_)
 refine b_op rfl (o_box rfl rfl rfl ?_)
 refine b_op rfl (o_alloc (fid := 57) (zs := [HV.int .i64 0, HV.int .i64 0, HV.bool false, HV.int .i64 0]) 57006 rfl rfl ty81 rfl (fun v1 => ?_))
 refine b_fin hK (s' := ⟨[(0, HV.fptr [HV.int .i64 p0.1.1, HV.int .i64 p0.1.2.1, slE eFromLabelTo p0.1.2.2, HV.str p0.2.1, HV.sl 16 ((p0.2.2.1).length / 16) (eInt.E p0.2.2.1), slE (eSl eFromLabelTo) p0.2.2.2.1, HV.mp p0.2.2.2.2.1 p0.2.2.2.2.2] 0), (4, HV.fptr [HV.int .i64 p1.1, HV.int .i64 p1.2.1, HV.bool p1.2.2.1, HV.int .i64 p1.2.2.2] 0), (5, HV.fptr [HV.int .i64 p2.1, HV.int .i64 p2.2.1, HV.int .i64 p2.2.2] 0), (6, HV.ptr 57006 v1 0)], [(57006, v1, .arr 4 81 [HV.int .i64 0, HV.int .i64 0, HV.bool false, HV.int .i64 0])]⟩) (le_q rfl rfl) ?_
 clear hK K
 refine AW.dgs 12 follows rfl rfl fun K hK => ?_
 refine sm rfl rfl ?_
 refine sv rfl (v_nilF rfl) ?_
 refine sv rfl (v_fieldAddrF fo90_2 rfl) ?_
 refine sv rfl (v_loadF ty87 rfl (l_lit rfl rfl)) ?_
 refine sv rfl (v_fieldAddrF fo81_1 rfl) ?_
 refine sv rfl (v_loadF ty3 rfl (l_lit rfl rfl)) ?_
 refine sv rfl (v_fieldAddrF fo53_1 rfl) ?_
 refine sv rfl (v_loadF ty3 rfl (l_lit rfl rfl)) ?_
 obtain ⟨h2, h⟩ := ifN h
 refine sv rfl (v_idxF ty87 es87 rfl rfl h2) ?_
 obtain ⟨h3, h⟩ := ifN h
 refine sv rfl (v_arrF ty114 es114 rfl rfl h3) ?_
 obtain ⟨x4, h5, h⟩ := bS h
 refine sv rfl (v_loadF ty3 rfl (l_flat h5 rfl)) ?_
 refine sm rfl rfl ?_
 refine s_nil ?_
 refine b_fin hK (s' := ⟨[(0, HV.fptr [HV.int .i64 p0.1.1, HV.int .i64 p0.1.2.1, slE eFromLabelTo p0.1.2.2, HV.str p0.2.1, HV.sl 16 ((p0.2.2.1).length / 16) (eInt.E p0.2.2.1), slE (eSl eFromLabelTo) p0.2.2.2.1, HV.mp p0.2.2.2.2.1 p0.2.2.2.2.2] 0), (4, HV.fptr [HV.int .i64 p1.1, HV.int .i64 p1.2.1, HV.bool p1.2.2.1, HV.int .i64 p1.2.2.2] 0), (5, HV.fptr [HV.int .i64 p2.1, HV.int .i64 p2.2.1, HV.int .i64 p2.2.2] 0), (6, HV.ptr 57006 v1 0), (7, HV.int .i64 x4)], [(57006, v1, .arr 4 81 [HV.int .i64 0, HV.int .i64 0, HV.bool false, HV.int .i64 0])]⟩) (le_q rfl rfl) ?_
 clear hK K
 refine AW.seqJ h (S := Bool) (V := Unit) (fun a v => ⟨[(6, HV.ptr 57006 v1 0)], [(57006, v1, .arr 4 81 [HV.int .i64 p2.2.2, HV.int .i64 x4, HV.bool a, HV.int .i64 (IntKind.wrap .i64 (p1.2.2.2 - 1))])]⟩) (fun a6 w7 h => ?_) (fun k8 h => ?_)
 ·refine AW.ret ?_
  have h := Option.some.inj h
  subst h
  exact ret_pure (hs := [HV.agg [HV.int .i64 p2.2.2, HV.int .i64 x4, HV.bool a6, HV.int .i64 (IntKind.wrap .i64 (p1.2.2.2 - 1))]]) (q := HV.agg [HV.int .i64 p2.2.2, HV.int .i64 x4, HV.bool a6, HV.int .i64 (IntKind.wrap .i64 (p1.2.2.2 - 1))]) (.inr rfl) (resP ty81 rfl rfl (l_litA rfl (Nat.le_of_ble_eq_true rfl) rfl) rfl) rfl ⟨trivial, trivial, trivial, trivial, trivial⟩
 refine AW.dg 18 follows rfl rfl fun K hK => ?_
 refine sv rfl (v_fieldAddrF fo53_2 rfl) ?_
 refine sv rfl (v_loadF ty3 rfl (l_lit rfl rfl)) ?_
 refine sm rfl rfl ?_
 refine sv rfl (v_fieldAddrF fo81_2 rfl) ?_
 refine sv rfl (v_loadF ty4 rfl (l_lit rfl rfl)) ?_
 refine sm rfl rfl ?_
 by_cases hg9 : p1.2.2.1 = true
 ·have h := ifT hg9 h
  refine s_F rfl rfl rfl rfl rfl hg9 ?_
  refine s_F rfl rfl rfl rfl rfl rfl ?_
  refine s_F rfl rfl rfl rfl rfl rfl ?_
  refine s_F rfl rfl rfl rfl rfl rfl ?_
  refine s_F rfl rfl rfl rfl rfl rfl ?_
  refine s_F rfl rfl rfl rfl rfl rfl ?_
  refine s_F rfl rfl rfl rfl rfl rfl ?_
  refine sv rfl (v_pickT rfl rfl rfl) ?_
  refine sv rfl (v_fieldAddrF fo81_3 rfl) ?_
  refine sv rfl (v_loadF ty3 rfl (l_lit rfl rfl)) ?_
  refine sv rfl (v_bin rfl rfl b_sub) ?_
  refine s_op rfl rfl (ops_build (cs := [HV.int .i64 p2.2.2, HV.int .i64 x4, HV.bool true, HV.int .i64 (IntKind.wrap .i64 (p1.2.2.2 - 1))]) rfl (bl_of ty81 rfl rfl rfl rfl) ?_)
  refine s_nil ?_
  refine b_op rfl (o_store (cs := [HV.int .i64 p2.2.2, HV.int .i64 x4, HV.bool true, HV.int .i64 (IntKind.wrap .i64 (p1.2.2.2 - 1))]) (zs := [HV.int .i64 p2.2.2, HV.int .i64 x4, HV.bool true, HV.int .i64 (IntKind.wrap .i64 (p1.2.2.2 - 1))]) rfl rfl rfl ty81 rfl rfl rfl rfl rfl ?_)
  refine b_nil (hK _ ?_)
  clear hK K
  exact to_le (s' := ⟨[(6, HV.ptr 57006 v1 0)], [(57006, v1, .arr 4 81 [HV.int .i64 p2.2.2, HV.int .i64 x4, HV.bool true, HV.int .i64 (IntKind.wrap .i64 (p1.2.2.2 - 1))])]⟩) (AS.le_of ⟨rfl, trivial⟩ ⟨rfl, trivial⟩) ⟨true, (), h, rfl⟩
 have h := ifF hg9 h
 refine s_T rfl rfl rfl rfl rfl (bF hg9) (ops_val rfl (mv_val rfl rfl).2 ?_)
 refine s_T rfl rfl rfl rfl rfl rfl (ops_val rfl (mv_val rfl rfl).2 ?_)
 refine s_T rfl rfl rfl rfl rfl rfl (ops_val rfl (v_nilF rfl) ?_)
 refine s_T rfl rfl rfl rfl rfl rfl (ops_val rfl (v_fieldAddrF fo90_1 rfl) ?_)
 refine s_T rfl rfl rfl rfl rfl rfl (ops_val rfl (v_loadF ty9 rfl (l_lit rfl rfl)) ?_)
 refine s_T rfl rfl rfl rfl rfl rfl (ops_val rfl (v_lenS rfl rfl ty9 rfl) ?_)
 refine s_T rfl rfl rfl rfl rfl rfl (ops_val rfl (v_bin rfl rfl b_eql) ?_)
 refine sv rfl (v_pickF rfl rfl rfl) ?_
 refine sv rfl (v_fieldAddrF fo81_3 rfl) ?_
 refine sv rfl (v_loadF ty3 rfl (l_lit rfl rfl)) ?_
 refine sv rfl (v_bin rfl rfl b_sub) ?_
 refine s_op rfl rfl (ops_build (cs := [HV.int .i64 p2.2.2, HV.int .i64 x4, HV.bool (decide (x4 = ((p0.2.1).length : Int))), HV.int .i64 (IntKind.wrap .i64 (p1.2.2.2 - 1))]) rfl (bl_of ty81 rfl rfl rfl rfl) ?_)
 refine s_nil ?_
 refine b_op rfl (o_store (cs := [HV.int .i64 p2.2.2, HV.int .i64 x4, HV.bool (decide (x4 = ((p0.2.1).length : Int))), HV.int .i64 (IntKind.wrap .i64 (p1.2.2.2 - 1))]) (zs := [HV.int .i64 p2.2.2, HV.int .i64 x4, HV.bool (decide (x4 = ((p0.2.1).length : Int))), HV.int .i64 (IntKind.wrap .i64 (p1.2.2.2 - 1))]) rfl rfl rfl ty81 rfl rfl rfl rfl rfl ?_)
 refine b_nil (hK _ ?_)
 clear hK K
 exact to_le (s' := ⟨[(6, HV.ptr 57006 v1 0)], [(57006, v1, .arr 4 81 [HV.int .i64 p2.2.2, HV.int .i64 x4, HV.bool (decide (x4 = ((p0.2.1).length : Int))), HV.int .i64 (IntKind.wrap .i64 (p1.2.2.2 - 1))])]⟩) (AS.le_of ⟨rfl, trivial⟩ ⟨rfl, trivial⟩) ⟨decide (x4 = ((p0.2.1).length : Int)), (), h, rfl⟩

set_option maxHeartbeats 1600000 in
set_option maxRecDepth 100000 in
theorem w_syncmark_search_ends {p0 : TGMarkTableNextMemo} {p1 : TStateReadBadLeft} {r : Bool} (h : m_syncmark_search_ends p0 p1 = some r) : Pure Try.prog 81 [HV.fptr [HV.int .i64 p0.1.1, HV.int .i64 p0.1.2.1, slE eFromLabelTo p0.1.2.2, HV.str p0.2.1, HV.sl 16 ((p0.2.2.1).length / 16) (eInt.E p0.2.2.1), slE (eSl eFromLabelTo) p0.2.2.2.1, HV.mp p0.2.2.2.2.1 p0.2.2.2.2.2] 0, HV.agg [HV.int .i64 p1.1, HV.int .i64 p1.2.1, HV.bool p1.2.2.1, HV.int .i64 p1.2.2.2]] (· = HV.bool r) := by
 unfold m_syncmark_search_ends at h
 refine Pure.of_body Try.func81 rfl rfl (Nat.le_of_ble_eq_true rfl) fun hf => ?_
 unfold Try.f81
 dsimp only [enumS, Nat.reduceAdd]
 refine AW.rgs rfl fun K hK => ?_
 refine b_op rfl (o_box rfl rfl rfl ?_)
 refine mv rfl rfl ?_
 refine b_fin hK (s' := ⟨[(0, HV.fptr [HV.int .i64 p0.1.1, HV.int .i64 p0.1.2.1, slE eFromLabelTo p0.1.2.2, HV.str p0.2.1, HV.sl 16 ((p0.2.2.1).length / 16) (eInt.E p0.2.2.1), slE (eSl eFromLabelTo) p0.2.2.2.1, HV.mp p0.2.2.2.2.1 p0.2.2.2.2.2] 0), (3, HV.fptr [HV.int .i64 p1.1, HV.int .i64 p1.2.1, HV.bool p1.2.2.1, HV.int .i64 p1.2.2.2] 0)], []⟩) (le_q rfl rfl) ?_
 clear hK K
 refine AW.rgs rfl fun K hK => ?_
 refine bv rfl (v_fieldAddrF fo81_1 rfl) ?_
 refine bv rfl (v_loadF ty3 rfl (l_lit rfl rfl)) ?_
 refine mv rfl rfl ?_
 refine b_fin hK (s' := ⟨[(0, HV.fptr [HV.int .i64 p0.1.1, HV.int .i64 p0.1.2.1, slE eFromLabelTo p0.1.2.2, HV.str p0.2.1, HV.sl 16 ((p0.2.2.1).length / 16) (eInt.E p0.2.2.1), slE (eSl eFromLabelTo) p0.2.2.2.1, HV.mp p0.2.2.2.2.1 p0.2.2.2.2.2] 0), (3, HV.fptr [HV.int .i64 p1.1, HV.int .i64 p1.2.1, HV.bool p1.2.2.1, HV.int .i64 p1.2.2.2] 0), (5, HV.int .i64 p1.2.1)], []⟩) (le_q rfl rfl) ?_
 clear hK K
 refine AW.seq ?_
 refine AW.rgs rfl fun K hK => ?_
 refine mv rfl rfl ?_
 refine bv rfl (v_nilF rfl) ?_
 refine bv rfl (v_fieldAddrF fo90_1 rfl) ?_
 refine bv rfl (v_loadF ty9 rfl (l_lit rfl rfl)) ?_
 refine bv rfl (v_lenS rfl rfl ty9 rfl) ?_
 refine mv rfl rfl ?_
 refine b_fin hK (s' := ⟨[(0, HV.fptr [HV.int .i64 p0.1.1, HV.int .i64 p0.1.2.1, slE eFromLabelTo p0.1.2.2, HV.str p0.2.1, HV.sl 16 ((p0.2.2.1).length / 16) (eInt.E p0.2.2.1), slE (eSl eFromLabelTo) p0.2.2.2.1, HV.mp p0.2.2.2.2.1 p0.2.2.2.2.2] 0), (3, HV.fptr [HV.int .i64 p1.1, HV.int .i64 p1.2.1, HV.bool p1.2.2.1, HV.int .i64 p1.2.2.2] 0), (5, HV.int .i64 p1.2.1), (13, HV.int .i64 ((p0.2.1).length : Int)), (14, HV.int .i64 0)], []⟩) (le_q rfl rfl) ?_
 clear hK K
 refine AW.lpR h (by first | exact up_then | exact up_to) (S := Int × Int) (V := Unit) (fun a v => ⟨[(0, HV.fptr [HV.int .i64 p0.1.1, HV.int .i64 p0.1.2.1, slE eFromLabelTo p0.1.2.2, HV.str p0.2.1, HV.sl 16 ((p0.2.2.1).length / 16) (eInt.E p0.2.2.1), slE (eSl eFromLabelTo) p0.2.2.2.1, HV.mp p0.2.2.2.2.1 p0.2.2.2.2.2] 0), (3, HV.fptr [HV.int .i64 p1.1, HV.int .i64 p1.2.1, HV.bool p1.2.2.1, HV.int .i64 p1.2.2.2] 0), (5, HV.int .i64 a.1), (13, HV.int .i64 ((p0.2.1).length : Int)), (14, HV.int .i64 a.2)], []⟩) ?_ (X := Unit) (W := Unit) (fun a v => ⟨[(3, HV.fptr [HV.int .i64 p1.1, HV.int .i64 p1.2.1, HV.bool p1.2.2.1, HV.int .i64 p1.2.2.2] 0)], []⟩) (fun a17 w18 h => ?_) (fun a1 w2 st3 h hr4=> ?_)
 ·exact to_le (s' := ⟨[(0, HV.fptr [HV.int .i64 p0.1.1, HV.int .i64 p0.1.2.1, slE eFromLabelTo p0.1.2.2, HV.str p0.2.1, HV.sl 16 ((p0.2.2.1).length / 16) (eInt.E p0.2.2.1), slE (eSl eFromLabelTo) p0.2.2.2.1, HV.mp p0.2.2.2.2.1 p0.2.2.2.2.2] 0), (3, HV.fptr [HV.int .i64 p1.1, HV.int .i64 p1.2.1, HV.bool p1.2.2.1, HV.int .i64 p1.2.2.2] 0), (5, HV.int .i64 p1.2.1), (13, HV.int .i64 ((p0.2.1).length : Int)), (14, HV.int .i64 0)], []⟩) (AS.le_of ⟨rfl, rfl, rfl, rfl, rfl, trivial⟩ trivial) ⟨(), rfl⟩
 ·refine AW.rgs rfl fun K hK => ?_
  refine bv rfl (v_fieldAddrF fo81_2 rfl) ?_
  refine bv rfl (v_loadF ty4 rfl (l_lit rfl rfl)) ?_
  refine mv rfl rfl ?_
  refine b_fin hK (s' := ⟨[(4, HV.bool p1.2.2.1)], []⟩) (le_q rfl rfl) ?_
  clear hK K
  refine AW.ret ?_
  have h := Option.some.inj h
  subst h
  exact ret_pure (hs := [HV.bool p1.2.2.1]) (q := HV.bool p1.2.2.1) (.inr rfl) (resT rfl rfl) rfl trivial
 refine AW.rgs rfl fun K hK => ?_
 refine bv rfl (v_bin rfl rfl b_lss) ?_
 refine b_fin hK (s' := ⟨[(0, HV.fptr [HV.int .i64 p0.1.1, HV.int .i64 p0.1.2.1, slE eFromLabelTo p0.1.2.2, HV.str p0.2.1, HV.sl 16 ((p0.2.2.1).length / 16) (eInt.E p0.2.2.1), slE (eSl eFromLabelTo) p0.2.2.2.1, HV.mp p0.2.2.2.2.1 p0.2.2.2.2.2] 0), (3, HV.fptr [HV.int .i64 p1.1, HV.int .i64 p1.2.1, HV.bool p1.2.2.1, HV.int .i64 p1.2.2.2] 0), (5, HV.int .i64 a1.1), (13, HV.int .i64 ((p0.2.1).length : Int)), (14, HV.int .i64 a1.2), (15, HV.bool (decide (a1.2 < ((p0.2.1).length : Int))))], []⟩) (le_q rfl rfl) ?_
 clear hK K
 refine AW.cseq rfl (fun hc => ?_) (fun hc => ?_)
 ·have hc := of_decide_eq_true hc
  have h := ifT hc h
  refine AW.skip ?_
  refine AW.seq (AW.block ?_)
  refine AW.rgs rfl fun K hK => ?_
  refine mv rfl rfl ?_
  refine mv rfl rfl ?_
  refine b_fin hK (s' := ⟨[(0, HV.fptr [HV.int .i64 p0.1.1, HV.int .i64 p0.1.2.1, slE eFromLabelTo p0.1.2.2, HV.str p0.2.1, HV.sl 16 ((p0.2.2.1).length / 16) (eInt.E p0.2.2.1), slE (eSl eFromLabelTo) p0.2.2.2.1, HV.mp p0.2.2.2.2.1 p0.2.2.2.2.2] 0), (3, HV.fptr [HV.int .i64 p1.1, HV.int .i64 p1.2.1, HV.bool p1.2.2.1, HV.int .i64 p1.2.2.2] 0), (5, HV.int .i64 a1.1), (6, HV.int .i64 a1.2), (13, HV.int .i64 ((p0.2.1).length : Int)), (14, HV.int .i64 a1.2)], []⟩) (le_q rfl rfl) ?_
  clear hK K
  refine AW.dgs 16 follows rfl rfl fun K hK => ?_
  refine sm rfl rfl ?_
  refine sv rfl (v_nilF rfl) ?_
  refine sv rfl (v_fieldAddrF fo90_2 rfl) ?_
  refine sv rfl (v_loadF ty87 rfl (l_lit rfl rfl)) ?_
  refine sm rfl rfl ?_
  refine sm rfl rfl ?_
  refine sv rfl (v_nilF rfl) ?_
  refine sv rfl (v_fieldAddrF fo90_1 rfl) ?_
  refine sv rfl (v_loadF ty9 rfl (l_lit rfl rfl)) ?_
  refine sm rfl rfl ?_
  obtain ⟨x5, h6, h⟩ := bS h
  refine sv rfl (v_idxS ty9 rfl rfl h6) ?_
  obtain ⟨x7, h8, h⟩ := bS h
  refine s_op rfl rfl (ops_call rfl rfl rfl rfl (ACallD.pure0 (w_strings_IndexByte h8)) ?_)
  obtain ⟨h9, h⟩ := ifN h
  refine sv rfl (v_idxF ty87 es87 rfl rfl h9) ?_
  obtain ⟨h10, h⟩ := ifN h
  refine sv rfl (v_arrF ty114 es114 rfl rfl h10) ?_
  obtain ⟨x11, h12, h⟩ := bS h
  refine sv rfl (v_loadF ty3 rfl (l_flat h12 rfl)) ?_
  refine sm rfl rfl ?_
  refine s_nil ?_
  refine b_fin hK (s' := ⟨[(0, HV.fptr [HV.int .i64 p0.1.1, HV.int .i64 p0.1.2.1, slE eFromLabelTo p0.1.2.2, HV.str p0.2.1, HV.sl 16 ((p0.2.2.1).length / 16) (eInt.E p0.2.2.1), slE (eSl eFromLabelTo) p0.2.2.2.1, HV.mp p0.2.2.2.2.1 p0.2.2.2.2.2] 0), (3, HV.fptr [HV.int .i64 p1.1, HV.int .i64 p1.2.1, HV.bool p1.2.2.1, HV.int .i64 p1.2.2.2] 0), (5, HV.int .i64 x11), (6, HV.int .i64 a1.2), (13, HV.int .i64 ((p0.2.1).length : Int)), (14, HV.int .i64 a1.2)], []⟩) (le_q rfl rfl) ?_
  clear hK K
  refine AW.seqJ h (S := Bool) (V := Unit) (fun a v => ⟨[(0, HV.fptr [HV.int .i64 p0.1.1, HV.int .i64 p0.1.2.1, slE eFromLabelTo p0.1.2.2, HV.str p0.2.1, HV.sl 16 ((p0.2.2.1).length / 16) (eInt.E p0.2.2.1), slE (eSl eFromLabelTo) p0.2.2.2.1, HV.mp p0.2.2.2.2.1 p0.2.2.2.2.2] 0), (3, HV.fptr [HV.int .i64 p1.1, HV.int .i64 p1.2.1, HV.bool p1.2.2.1, HV.int .i64 p1.2.2.2] 0), (5, HV.int .i64 x11), (13, HV.int .i64 ((p0.2.1).length : Int)), (14, HV.int .i64 a1.2), (48, HV.bool a)], []⟩) (fun a13 w14 h => ?_) (fun k15 h => ?_)
  ·refine AW.cond rfl (fun hc => ?_) (fun hc => ?_)
   ·have h := ifT hc h
    refine AW.rgs rfl fun K hK => ?_
    refine mv rfl rfl ?_
    refine b_fin hK (s' := ⟨[(4, HV.bool true)], []⟩) (le_q rfl rfl) ?_
    clear hK K
    have h := hr4 _ h
    refine AW.ret ?_
    have h := Option.some.inj h
    subst h
    exact ret_pure (hs := [HV.bool true]) (q := HV.bool true) (.inr rfl) (resT rfl rfl) rfl trivial
   have h := ifF (bF' hc) h
   refine AW.skip ?_
   refine AW.rg rfl fun K hK => ?_
   refine bv rfl (v_bin rfl rfl b_add) ?_
   refine mv rfl rfl ?_
   refine b_nil (hK _ ?_)
   clear hK K
   exact to_le (s' := ⟨[(0, HV.fptr [HV.int .i64 p0.1.1, HV.int .i64 p0.1.2.1, slE eFromLabelTo p0.1.2.2, HV.str p0.2.1, HV.sl 16 ((p0.2.2.1).length / 16) (eInt.E p0.2.2.1), slE (eSl eFromLabelTo) p0.2.2.2.1, HV.mp p0.2.2.2.2.1 p0.2.2.2.2.2] 0), (3, HV.fptr [HV.int .i64 p1.1, HV.int .i64 p1.2.1, HV.bool p1.2.2.1, HV.int .i64 p1.2.2.2] 0), (5, HV.int .i64 x11), (13, HV.int .i64 ((p0.2.1).length : Int)), (14, HV.int .i64 (IntKind.wrap .i64 (a1.2 + 1)))], []⟩) (AS.le_of ⟨rfl, rfl, rfl, rfl, rfl, trivial⟩ trivial) ⟨(x11, IntKind.wrap .i64 (a1.2 + 1)), (), h, rfl⟩
  refine AW.rg rfl fun K hK => ?_
  refine mv rfl rfl ?_
  refine mv rfl rfl ?_
  refine bv rfl (v_nilF rfl) ?_
  refine bv rfl (v_fieldAddrF fo90_1 rfl) ?_
  refine bv rfl (v_loadF ty9 rfl (l_lit rfl rfl)) ?_
  refine bv rfl (v_lenS rfl rfl ty9 rfl) ?_
  refine bv rfl (v_bin rfl rfl b_eql) ?_
  refine mv rfl rfl ?_
  by_cases hg16 : x11 = ((p0.2.1).length : Int)
  ·have h := ifT hg16 h
   refine b_T rfl rfl rfl rfl (decide_eq_true hg16) (o_val rfl (mv_val rfl rfl).2 ?_)
   refine b_T rfl rfl rfl rfl rfl (o_val rfl (mv_val rfl rfl).2 ?_)
   refine b_T rfl rfl rfl rfl rfl (o_val rfl (v_nilF rfl) ?_)
   refine b_T rfl rfl rfl rfl rfl (o_val rfl (v_fieldAddrF fo90_1 rfl) ?_)
   refine b_T rfl rfl rfl rfl rfl (o_val rfl (v_loadF ty9 rfl (l_lit rfl rfl)) ?_)
   refine b_T rfl rfl rfl rfl rfl (o_val rfl (v_lenS rfl rfl ty9 rfl) ?_)
   refine b_T rfl rfl rfl rfl rfl (o_val rfl (v_bin rfl rfl b_sub) ?_)
   refine b_T rfl rfl rfl rfl rfl (o_val rfl (v_bin rfl rfl b_lss) ?_)
   refine bv rfl (v_pickT rfl rfl rfl) ?_
   refine b_nil (hK _ ?_)
   clear hK K
   exact to_le (s' := ⟨[(0, HV.fptr [HV.int .i64 p0.1.1, HV.int .i64 p0.1.2.1, slE eFromLabelTo p0.1.2.2, HV.str p0.2.1, HV.sl 16 ((p0.2.2.1).length / 16) (eInt.E p0.2.2.1), slE (eSl eFromLabelTo) p0.2.2.2.1, HV.mp p0.2.2.2.2.1 p0.2.2.2.2.2] 0), (3, HV.fptr [HV.int .i64 p1.1, HV.int .i64 p1.2.1, HV.bool p1.2.2.1, HV.int .i64 p1.2.2.2] 0), (5, HV.int .i64 x11), (13, HV.int .i64 ((p0.2.1).length : Int)), (14, HV.int .i64 a1.2), (48, HV.bool (decide (a1.2 < (IntKind.wrap .i64 (((p0.2.1).length : Int) - 1)))))], []⟩) (AS.le_of ⟨rfl, rfl, rfl, rfl, rfl, rfl, trivial⟩ trivial) ⟨decide (a1.2 < (IntKind.wrap .i64 (((p0.2.1).length : Int) - 1))), (), h, rfl⟩
  have h := ifF hg16 h
  refine b_F rfl rfl rfl rfl rfl (decide_eq_false hg16) ?_
  refine b_F rfl rfl rfl rfl rfl rfl ?_
  refine b_F rfl rfl rfl rfl rfl rfl ?_
  refine b_F rfl rfl rfl rfl rfl rfl ?_
  refine b_F rfl rfl rfl rfl rfl rfl ?_
  refine b_F rfl rfl rfl rfl rfl rfl ?_
  refine b_F rfl rfl rfl rfl rfl rfl ?_
  refine b_F rfl rfl rfl rfl rfl rfl ?_
  refine bv rfl (v_pickF rfl rfl rfl) ?_
  refine b_nil (hK _ ?_)
  clear hK K
  exact to_le (s' := ⟨[(0, HV.fptr [HV.int .i64 p0.1.1, HV.int .i64 p0.1.2.1, slE eFromLabelTo p0.1.2.2, HV.str p0.2.1, HV.sl 16 ((p0.2.2.1).length / 16) (eInt.E p0.2.2.1), slE (eSl eFromLabelTo) p0.2.2.2.1, HV.mp p0.2.2.2.2.1 p0.2.2.2.2.2] 0), (3, HV.fptr [HV.int .i64 p1.1, HV.int .i64 p1.2.1, HV.bool p1.2.2.1, HV.int .i64 p1.2.2.2] 0), (5, HV.int .i64 x11), (13, HV.int .i64 ((p0.2.1).length : Int)), (14, HV.int .i64 a1.2), (48, HV.bool false)], []⟩) (AS.le_of ⟨rfl, rfl, rfl, rfl, rfl, rfl, trivial⟩ trivial) ⟨false, (), h, rfl⟩
 have hc := of_decide_eq_false hc
 have h := ifF hc h
 refine AW.exit ?_
 exact to_le (s' := ⟨[(3, HV.fptr [HV.int .i64 p1.1, HV.int .i64 p1.2.1, HV.bool p1.2.2.1, HV.int .i64 p1.2.2.2] 0)], []⟩) (AS.le_of ⟨rfl, trivial⟩ trivial) ⟨(), (), h, rfl⟩

set_option maxHeartbeats 1600000 in
set_option maxRecDepth 100000 in
theorem w_internal_stringslite_HasSuffix {p0 : List UInt8} {p1 : List UInt8} {r : Bool} (h : m_internal_stringslite_HasSuffix p0 p1 = some r) : Pure Try.prog 47 [HV.str p0, HV.str p1] (· = HV.bool r) := by
 unfold m_internal_stringslite_HasSuffix at h
 refine Pure.of_body Try.func47 rfl rfl (Nat.le_of_ble_eq_true rfl) fun hf => ?_
 unfold Try.f47
 dsimp only [enumS, Nat.reduceAdd]
 refine AW.rgs rfl fun K hK => ?_
 refine mv rfl rfl ?_
 refine b_fin hK (s' := ⟨[(0, HV.str p0), (1, HV.str p1)], []⟩) (le_q rfl rfl) ?_
 clear hK K
 refine AW.seqJ h (S := Bool) (V := Unit) (fun a v => ⟨[(4, HV.bool a)], []⟩) (fun a1 w2 h => ?_) (fun k3 h => ?_)
 ·refine AW.ret ?_
  have h := Option.some.inj h
  subst h
  exact ret_pure (hs := [HV.bool a1]) (q := HV.bool a1) (.inr rfl) (resT rfl rfl) rfl trivial
 refine AW.rg rfl fun K hK => ?_
 refine mv rfl rfl ?_
 refine bv rfl (v_lenS rfl rfl ty9 rfl) ?_
 refine mv rfl rfl ?_
 refine bv rfl (v_lenS rfl rfl ty9 rfl) ?_
 refine bv rfl (v_bin rfl rfl b_geq) ?_
 refine mv rfl rfl ?_
 by_cases hg5 : ((p1).length : Int) ≤ ((p0).length : Int)
 ·have h := ifT hg5 h
  refine b_T rfl rfl rfl rfl (decide_eq_true hg5) (o_val rfl (mv_val rfl rfl).2 ?_)
  refine b_T rfl rfl rfl rfl rfl (o_val rfl (mv_val rfl rfl).2 ?_)
  refine b_T rfl rfl rfl rfl rfl (o_val rfl (v_lenS rfl rfl ty9 rfl) ?_)
  refine b_T rfl rfl rfl rfl rfl (o_val rfl (mv_val rfl rfl).2 ?_)
  refine b_T rfl rfl rfl rfl rfl (o_val rfl (v_lenS rfl rfl ty9 rfl) ?_)
  refine b_T rfl rfl rfl rfl rfl (o_val rfl (v_bin rfl rfl b_sub) ?_)
  obtain ⟨h4, h⟩ := ifN h
  refine b_T rfl rfl rfl rfl rfl (o_val rfl (v_sliceS ty9 rfl rfl rfl h4) ?_)
  refine b_T rfl rfl rfl rfl rfl (o_val rfl (mv_val rfl rfl).2 ?_)
  refine b_T rfl rfl rfl rfl rfl (o_val rfl (v_bin rfl rfl b_seql) ?_)
  refine bv rfl (v_pickT rfl rfl rfl) ?_
  refine mv rfl rfl ?_
  refine b_nil (hK _ ?_)
  clear hK K
  exact to_le (s' := ⟨[(4, HV.bool (decide (((p0.take (((p0).length : Int)).toNat).drop (IntKind.wrap .i64 (((p0).length : Int) - ((p1).length : Int))).toNat) = p1)))], []⟩) (AS.le_of ⟨rfl, trivial⟩ trivial) ⟨decide (((p0.take (((p0).length : Int)).toNat).drop (IntKind.wrap .i64 (((p0).length : Int) - ((p1).length : Int))).toNat) = p1), (), h, rfl⟩
 have h := ifF hg5 h
 refine b_F rfl rfl rfl rfl rfl (decide_eq_false hg5) ?_
 refine b_F rfl rfl rfl rfl rfl rfl ?_
 refine b_F rfl rfl rfl rfl rfl rfl ?_
 refine b_F rfl rfl rfl rfl rfl rfl ?_
 refine b_F rfl rfl rfl rfl rfl rfl ?_
 refine b_F rfl rfl rfl rfl rfl rfl ?_
 refine b_F rfl rfl rfl rfl rfl rfl ?_
 refine b_F rfl rfl rfl rfl rfl rfl ?_
 refine b_F rfl rfl rfl rfl rfl rfl ?_
 refine bv rfl (v_pickF rfl rfl rfl) ?_
 refine mv rfl rfl ?_
 refine b_nil (hK _ ?_)
 clear hK K
 exact to_le (s' := ⟨[(4, HV.bool false)], []⟩) (AS.le_of ⟨rfl, trivial⟩ trivial) ⟨false, (), h, rfl⟩

set_option maxHeartbeats 1600000 in
set_option maxRecDepth 100000 in
theorem w_strings_HasSuffix {p0 : List UInt8} {p1 : List UInt8} {r : Bool} (h : m_strings_HasSuffix p0 p1 = some r) : Pure Try.prog 25 [HV.str p0, HV.str p1] (· = HV.bool r) := by
 unfold m_strings_HasSuffix at h
 refine Pure.of_body Try.func25 rfl rfl (Nat.le_of_ble_eq_true rfl) fun hf => ?_
 unfold Try.f25
 dsimp only [enumS, Nat.reduceAdd]
 refine AW.rgs rfl fun K hK => ?_
 refine mv rfl rfl ?_
 refine b_fin hK (s' := ⟨[(0, HV.str p0), (1, HV.str p1)], []⟩) (le_q rfl rfl) ?_
 clear hK K
 refine AW.rgs rfl fun K hK => ?_
 refine mv rfl rfl ?_
 refine mv rfl rfl ?_
 obtain ⟨x1, h2, h⟩ := bS h
 refine b_op rfl (o_call rfl rfl rfl rfl (ACallD.pure0 (w_internal_stringslite_HasSuffix h2)) ?_)
 refine mv rfl rfl ?_
 refine b_fin hK (s' := ⟨[(4, HV.bool x1)], []⟩) (le_q rfl rfl) ?_
 clear hK K
 refine AW.ret ?_
 have h := Option.some.inj h
 subst h
 exact ret_pure (hs := [HV.bool x1]) (q := HV.bool x1) (.inr rfl) (resT rfl rfl) rfl trivial

end Go.AW



/- What the functions of graphs compute: checks, steps, sets of states. -/
namespace Go.AW
open Go
set_option linter.unusedSimpArgs false
set_option linter.unusedVariables false

theorem loopW_eq {S X : Type} (body : S → Option (Stp S X)) (s : S) : loopW body s = match body s with
    | none => none
    | some (.exit x) => some x
    | some (.next s') => loopW body s' := by
  cases h : body s with
  | none => exact loopW_stuck h
  | some r => cases r with
    | exit x => exact loopW_exit h
    | next s' => exact loopW_next h

abbrev Gr := TLabelsStatesEdges
abbrev Ed := TFromLabelTo

def cmp3 (x y : Ed) : Int := if x.1 < y.1 then -1 else if y.1 < x.1 then 1 else if x.2.1 < y.2.1 then -1 else if y.2.1 < x.2.1 then 1 else if x.2.2 < y.2.2 then -1 else if y.2.2 < x.2.2 then 1 else 0

theorem cmpC (a b : Int) : m_cmp_Compare_int a b = some (if a < b then -1 else if b < a then 1 else 0) := by
  unfold m_cmp_Compare_int m_cmp_isNaN_int
  simp only [ne_eq, not_true_eq_false, decide_false, Option.bind_some, Bool.false_eq_true, if_false]
  split <;> (try rfl)
  split <;> rfl

theorem wr0 : IntKind.wrap .i64 (0 + 1) = 1 := by decide
theorem wr1 : IntKind.wrap .i64 (1 + 1) = 2 := by decide
theorem wr2 : IntKind.wrap .i64 (2 + 1) = 3 := by decide

theorem ix3_0 (a b c : Int) : idx [a, b, c] 0 = some a := rfl
theorem ix3_1 (a b c : Int) : idx [a, b, c] 1 = some b := rfl
theorem ix3_2 (a b c : Int) : idx [a, b, c] 2 = some c := rfl
theorem len3 (a b c : Int) : (([a, b, c] : List Int).length : Int) = 3 := rfl

theorem by1_eq (x y : Ed) : m_graph_by_api_Edge_1 x y = some (cmp3 x y) := by
  unfold m_graph_by_api_Edge_1 m_graph_list m_slices_Compare_Lint_int cmp3
  simp only [Option.bind_some, len3]
  rw [loopW_eq]
  simp only [ix3_0, cmpC, Option.bind_some, wr0]
  by_cases a1 : x.1 < y.1
  · simp [a1, lpO]
  by_cases a2 : y.1 < x.1
  · simp [a1, a2, lpO]
  simp only [a1, a2, if_false, ne_eq, not_true_eq_false, if_true, Int.reduceLT, Int.reduceLE]
  rw [loopW_eq]
  simp only [ix3_1, cmpC, Option.bind_some, wr1]
  by_cases b1 : x.2.1 < y.2.1
  · simp [b1, lpO]
  by_cases b2 : y.2.1 < x.2.1
  · simp [b1, b2, lpO]
  simp only [b1, b2, if_false, ne_eq, not_true_eq_false, if_true, Int.reduceLT, Int.reduceLE]
  rw [loopW_eq]
  simp only [ix3_2, cmpC, Option.bind_some, wr2]
  by_cases c1 : x.2.2 < y.2.2
  · simp [c1, lpO]
  by_cases c2 : y.2.2 < x.2.2
  · simp [c1, c2, lpO]
  simp only [c1, c2, if_false, ne_eq, not_true_eq_false, if_true, Int.reduceLT, Int.reduceLE]
  rw [loopW_eq]
  simp [lpO]

theorem cmp_eq (x y : Ed) : m_ref09_Compare x y = some (cmp3 x y) := by
  unfold m_ref09_Compare cmp3
  rw [loopW_eq]
  simp only [ix3_0, Option.bind_some, wr0]
  by_cases a1 : x.1 < y.1
  · simp [a1, lpO]
  by_cases a2 : y.1 < x.1
  · simp [a1, a2, lpO]
  simp only [a1, a2, if_false, if_true, Int.reduceLT]
  rw [loopW_eq]
  simp only [ix3_1, Option.bind_some, wr1]
  by_cases b1 : x.2.1 < y.2.1
  · simp [b1, lpO]
  by_cases b2 : y.2.1 < x.2.1
  · simp [b1, b2, lpO]
  simp only [b1, b2, if_false, if_true, Int.reduceLT]
  rw [loopW_eq]
  simp only [ix3_2, Option.bind_some, wr2]
  by_cases c1 : x.2.2 < y.2.2
  · simp [c1, lpO]
  by_cases c2 : y.2.2 < x.2.2
  · simp [c1, c2, lpO]
  simp only [c1, c2, if_false, if_true, Int.reduceLT]
  rw [loopW_eq]
  simp [lpO]

theorem Check_ref (g : Gr) : m_graph_Check g = m_ref09_Check g := by
  unfold m_graph_Check m_ref09_Check
  have key : ∀ (x : Ed) (k : Bool → Option (Stp Int (Ou Unit Int))), (if (min (min x.1 x.2.1) x.2.2) < 0 then k true else if g.2.1 ≤ (max x.1 x.2.2) then k true else k (decide (g.1 ≤ x.2.1))) =
      (if x.1 < 0 then k true else if g.2.1 ≤ x.1 then k true else if x.2.2 < 0 then k true else if g.2.1 ≤ x.2.2 then k true else if x.2.1 < 0 then k true else k (decide (g.1 ≤ x.2.1))) := by
    intro x k
    by_cases h1 : x.1 < 0
    · rw [if_pos (by omega), if_pos h1]
    by_cases h2 : g.2.1 ≤ x.1
    · rw [if_neg h1, if_pos h2]
      split
      · rfl
      · rw [if_pos (by omega)]
    by_cases h3 : x.2.2 < 0
    · rw [if_neg h1, if_neg h2, if_pos h3, if_pos (by omega)]
    by_cases h4 : g.2.1 ≤ x.2.2
    · rw [if_neg h1, if_neg h2, if_neg h3, if_pos h4]
      split
      · rfl
      · rw [if_pos (by omega)]
    by_cases h5 : x.2.1 < 0
    · rw [if_neg h1, if_neg h2, if_neg h3, if_neg h4, if_pos h5, if_pos (by omega)]
    · rw [if_neg h1, if_neg h2, if_neg h3, if_neg h4, if_neg h5, if_neg (by omega), if_neg (by omega)]
  simp only [by1_eq, cmp_eq, key]

structure VG (g : Gr) : Prop where
  l1 : 1 ≤ g.1
  l2 : g.1 ≤ 256
  s0 : 0 ≤ g.2.1
  s1 : g.2.1 ≤ 64
  el : g.2.2.length ≤ 1024
  ed : ∀ x ∈ g.2.2, 0 ≤ x.1 ∧ x.1 < g.2.1 ∧ 0 ≤ x.2.2 ∧ x.2.2 < g.2.1 ∧ 0 ≤ x.2.1 ∧ x.2.1 < g.1
  ord : ∀ (i : Nat) (h : i + 1 < g.2.2.length), cmp3 (g.2.2[i]'(by omega)) g.2.2[i + 1] < 0

theorem ix_pred {α : Type} {l : List α} {i : Nat} (h : i < l.length) (hm : l.length ≤ 9223372036854775807) (h0 : 0 < i) : idx l (IntKind.wrap .i64 ((i : Int) - 1)) = some (l[i - 1]'(by omega)) := by
  rw [w64 (by omega) (by omega), show ((i : Int) - 1) = ((i - 1 : Nat) : Int) by omega]
  exact ix (by omega)

theorem lpO_ex {V R Y : Type} {o : Option (Ou V R)} {M : V → Option Y} {Rt : R → Option Y} {C : Y → Prop} (Q : Ou V R → Prop) (h : ∃ x, o = some x ∧ Q x) (k : ∀ x, Q x → ∃ e, lpO (some x) M Rt = some e ∧ C e) : ∃ e, lpO o M Rt = some e ∧ C e := by
  obtain ⟨x, rfl, hq⟩ := h
  exact k x hq

theorem Check_tot (g : Gr) : ∃ e, m_ref09_Check g = some e ∧ (e = 0 ↔ VG g) := by
  unfold m_ref09_Check
  simp only [jp]
  by_cases h1 : g.1 < 1
  · exact ⟨12, by simp [h1], by simp; intro v; have := v.l1; omega⟩
  by_cases h2 : 256 < g.1
  · exact ⟨12, by simp [h1, h2], by simp; intro v; have := v.l2; omega⟩
  by_cases h3 : g.2.1 < 0
  · exact ⟨2, by simp [h1, h2, h3], by simp; intro v; have := v.s0; omega⟩
  by_cases h4 : 64 < g.2.1
  · exact ⟨4, by simp [h1, h2, h3, h4], by simp; intro v; have := v.s1; omega⟩
  by_cases h5 : 1024 < (g.2.2.length : Int)
  · exact ⟨4, by simp [h1, h2, h3, h4, h5], by simp; intro v; have := v.el; omega⟩
  simp only [h1, h2, h3, h4, h5, if_false, decide_false, Bool.false_eq_true, cmp_eq, Option.bind_some, if_true]
  refine lpO_ex (fun x => (x = .ret 2 ∧ ¬ VG g) ∨ (x = .ret 10 ∧ ¬ VG g) ∨ (x = .go () ∧ VG g)) ?_ ?_
  · refine loopN g.2.2.length (fun i s => s = (i : Int) ∧ (∀ (j : Nat) (h : j < i) (hj : j < g.2.2.length), 0 ≤ g.2.2[j].1 ∧ g.2.2[j].1 < g.2.1 ∧ 0 ≤ g.2.2[j].2.2 ∧ g.2.2[j].2.2 < g.2.1 ∧ 0 ≤ g.2.2[j].2.1 ∧ g.2.2[j].2.1 < g.1) ∧
        ∀ (j : Nat) (h : j + 1 < i) (hj : j + 1 < g.2.2.length), cmp3 (g.2.2[j]'(by omega)) g.2.2[j + 1] < 0) ?_ ?_ 0 _ (Nat.zero_le _) ⟨rfl, fun _ h => by omega, fun _ h => by omega⟩
    · rintro i s hi ⟨rfl, he, ho⟩
      rw [if_pos (lt_int hi), ix hi]
      simp only [Option.bind_some]
      by_cases hg : 0 ≤ g.2.2[i].1 ∧ g.2.2[i].1 < g.2.1 ∧ 0 ≤ g.2.2[i].2.2 ∧ g.2.2[i].2.2 < g.2.1 ∧ 0 ≤ g.2.2[i].2.1 ∧ g.2.2[i].2.1 < g.1
      · obtain ⟨e1, e2, e3, e4, e5, e6⟩ := hg
        rw [if_neg (by omega), if_neg (by omega), if_neg (by omega), if_neg (by omega), if_neg (by omega)]
        have hd : decide (g.1 ≤ g.2.2[i].2.1) = false := decide_eq_false (by omega)
        rw [hd]
        simp only [Bool.false_eq_true, if_false]
        have he' : ∀ (j : Nat) (h : j < i + 1) (hj : j < g.2.2.length), 0 ≤ g.2.2[j].1 ∧ g.2.2[j].1 < g.2.1 ∧ 0 ≤ g.2.2[j].2.2 ∧ g.2.2[j].2.2 < g.2.1 ∧ 0 ≤ g.2.2[j].2.1 ∧ g.2.2[j].2.1 < g.1 := by
          intro j hj hjl
          by_cases hji : j = i
          · subst hji; exact ⟨e1, e2, e3, e4, e5, e6⟩
          · exact he j (by omega) hjl
        by_cases h0 : 0 < i
        · rw [if_pos (by omega), ix_pred hi (by omega) h0]
          simp only [Option.bind_some]
          by_cases hc : 0 ≤ cmp3 (g.2.2[i - 1]'(by omega)) g.2.2[i]
          · refine .inr ⟨.ret 10, by rw [if_pos (decide_eq_true hc)], .inr (.inl ⟨rfl, fun v => ?_⟩)⟩
            have := v.ord (i - 1) (by omega)
            simp only [show i - 1 + 1 = i by omega] at this
            omega
          · refine .inl ⟨_, by rw [if_neg (by simpa using hc)], by rw [nx (by omega : g.2.2.length ≤ _) hi], he', fun j hj hjl => ?_⟩
            by_cases hji : j + 1 = i
            · have hj' : j = i - 1 := by omega
              subst hj'
              simp only [show i - 1 + 1 = i by omega]
              omega
            · exact ho j (by omega) hjl
        · refine .inl ⟨_, by rw [if_neg (by omega)], by rw [nx (by omega : g.2.2.length ≤ _) hi], he', fun j hj hjl => by omega⟩
      · have hv : ¬ VG g := fun v => hg (v.ed _ (List.getElem_mem hi))
        refine .inr ⟨.ret 2, ?_, .inl ⟨rfl, hv⟩⟩
        by_cases e1 : g.2.2[i].1 < 0
        · rw [if_pos e1]
        rw [if_neg e1]
        by_cases e2 : g.2.1 ≤ g.2.2[i].1
        · rw [if_pos e2]
        rw [if_neg e2]
        by_cases e3 : g.2.2[i].2.2 < 0
        · rw [if_pos e3]
        rw [if_neg e3]
        by_cases e4 : g.2.1 ≤ g.2.2[i].2.2
        · rw [if_pos e4]
        rw [if_neg e4]
        by_cases e5 : g.2.2[i].2.1 < 0
        · rw [if_pos e5]
        rw [if_neg e5, if_pos (decide_eq_true (by omega))]
    · rintro s ⟨rfl, he, ho⟩
      rw [if_neg (not_lt_int _)]
      refine ⟨_, rfl, .inr (.inr ⟨rfl, ⟨by omega, by omega, by omega, by omega, by omega, fun x hx => ?_, fun i h => ho i h h⟩⟩)⟩
      obtain ⟨j, hj, rfl⟩ := List.getElem_of_mem hx
      exact he j hj hj
  · rintro x (⟨rfl, hv⟩ | ⟨rfl, hv⟩ | ⟨rfl, hv⟩)
    · exact ⟨2, rfl, by simp [hv]⟩
    · exact ⟨10, rfl, by simp [hv]⟩
    · exact ⟨0, rfl, by simp [hv]⟩
end Go.AW

/- Tables of what follows: their numbers in a row, and how they are filled. -/
namespace Go.AW
open Go
theorem HasSuffix_eq {a b : List UInt8} (ha : a.length ≤ 4611686018427387904) : m_strings_HasSuffix a b = some (b.isSuffixOf a) := by
  unfold m_strings_HasSuffix m_internal_stringslite_HasSuffix jp
  dsimp only
  by_cases h : (b.length : Int) ≤ (a.length : Int)
  · have hw : IntKind.wrap .i64 ((a.length : Int) - (b.length : Int)) = ((a.length - b.length : Nat) : Int) := by rw [w64 (by omega) (by omega)]; omega
    rw [if_pos h, hw, if_pos ⟨by omega, by omega, Int.le_refl _⟩]
    simp only [Option.bind_some, Int.toNat_natCast, List.take_length, Option.some.injEq]
    rw [Bool.eq_iff_iff, decide_eq_true_eq, List.isSuffixOf_iff_suffix, List.suffix_iff_eq_drop]
    exact ⟨fun h => h.symm, fun h => h.symm⟩
  · rw [if_neg h]
    simp only [Option.bind_some, Option.some.injEq]
    rw [eq_comm, Bool.eq_false_iff]
    intro hs
    have := (List.isSuffixOf_iff_suffix.1 hs).length_le
    omega
def ftabE (mark : List UInt8) (q : Nat) : Int := (foll mark (q / 16) (letters.getD (q % 16) 0) : Int)
def ftabL (mark : List UInt8) : List Int := (List.range ((mark.length + 1) * 16)).map (ftabE mark)
def pcell (mark : List UInt8) (m : Nat) : List Int := (List.range ((mark.length + 1) * 16)).map fun q => if q < m then ftabE mark q else 0
theorem ftabL_len (mark : List UInt8) : (ftabL mark).length = (mark.length + 1) * 16 := by simp [ftabL]
theorem ftabL_div (mark : List UInt8) : (ftabL mark).length / 16 = mark.length + 1 := by rw [ftabL_len]; omega
theorem pcell_len (mark : List UInt8) (m : Nat) : (pcell mark m).length = (mark.length + 1) * 16 := by simp [pcell]
theorem pcell_zero (mark : List UInt8) : pcell mark 0 = List.replicate ((mark.length + 1) * 16) 0 := by
  refine List.ext_getElem (by simp [pcell]) fun i h1 h2 => ?_
  simp [pcell]
theorem pcell_set (mark : List UInt8) {m : Nat} : (pcell mark m).set m (ftabE mark m) = pcell mark (m + 1) := by
  refine List.ext_getElem (by simp [pcell]) fun i h1 h2 => ?_
  rw [List.getElem_set]
  simp only [pcell, List.getElem_map, List.getElem_range]
  by_cases e : m = i
  · subst e
    rw [if_pos rfl, if_pos (by omega)]
  · rw [if_neg e]
    by_cases h : i < m
    · rw [if_pos h, if_pos (by omega)]
    · rw [if_neg h, if_neg (by omega)]
theorem pcell_full (mark : List UInt8) {m : Nat} (h : (mark.length + 1) * 16 ≤ m) : pcell mark m = ftabL mark := by
  refine List.ext_getElem (by simp [pcell, ftabL]) fun i h1 h2 => ?_
  simp only [pcell_len] at h1
  simp only [pcell, ftabL, List.getElem_map, List.getElem_range]
  rw [if_pos (by omega)]
theorem fgo_le (mark w : List UInt8) : ∀ n, fgo mark w n ≤ n
  | 0 => Nat.le_refl _
  | n + 1 => by
    unfold fgo
    split
    · exact Nat.le_refl _
    · exact Nat.le_succ_of_le (fgo_le mark w n)
theorem fgo_hit {mark w : List UInt8} {n : Nat} (h : (mark.take n).isSuffixOf w = true) : fgo mark w n = n := by
  cases n with
  | zero => rfl
  | succ n => unfold fgo; rw [if_pos h]
theorem fgo_miss {mark w : List UInt8} {n : Nat} (h : (mark.take n).isSuffixOf w = false) : 0 < n ∧ fgo mark w n = fgo mark w (n - 1) := by
  cases n with
  | zero => rw [List.take_zero] at h; simp [List.isSuffixOf] at h
  | succ n => 
    refine ⟨Nat.succ_pos _, ?_⟩
    rw [show n + 1 - 1 = n by omega]
    conv => lhs; unfold fgo
    rw [if_neg (by rw [h]; decide)]
theorem foll_le (mark : List UInt8) (k : Nat) (c : UInt8) : foll mark k c ≤ mark.length := Nat.le_trans (fgo_le _ _ _) (Nat.min_le_right _ _)
abbrev eA16 : EncL (List Int) := encF 16 (fun x => (List.range 16).map fun i => HV.int .i64 (x.getD i 0)) (fun _ => by simp)
theorem eA16_zero : ∀ n : Nat, eA16.E (List.replicate n []) = eInt.E (List.replicate (n * 16) 0)
  | 0 => rfl
  | n + 1 => by
    have h1 : eA16.E (List.replicate (n + 1) ([] : List Int)) = eA16.C [] ++ eA16.E (List.replicate n []) := by
      rw [eA16.hE, eA16.hE, List.replicate_succ, List.flatMap_cons]
    rw [h1, eA16_zero n, Nat.add_mul, Nat.one_mul, Nat.add_comm, ← List.replicate_append_replicate]
    show _ = List.map _ (_ ++ _)
    rw [List.map_append]
    rfl
end Go.AW

/- Regions that draw their order: more operations that may be taken first, for no world turns their value. -/
namespace Go.AW
open Go
section
variable {P : Program} {N B : Nat} {s : AS} {ops : Array Oper} {o : Oper} {K : AS → Prop} {F : List Nat → AS → Prop} {L : List Nat}
def lit : HV → Bool
  | .int _ _ | .bool _ | .str _ => true
  | _ => false
def Free (P : Program) (o : Oper) (s : AS) (v : HV) : Prop := aval P o.op s (· = v) ∧ (∀ c, o.op ≠ .call c) ∧
  ∀ (B N : Nat) (μ : Mu) (a : Act) (w : World), SRel none N B μ s a w → ∃ u, ∀ w', (execOp a.eval o).run P w' = .ok (.value u) w'
end
end Go.AW

/- Regions that draw their order, by what holds when a set of their operations is done. -/
namespace Go.AW
open Go
section
variable {P : Program} {ro : Option Nat} {N : Nat} {s : AS} {ops : Array Oper} {K : AS → Prop} {F : List Nat → AS → Prop} {L : List Nat}
theorem AOpI.mono {i : Nat} {G G' : AS → Prop} (h : AOpI P ro N ops i G s) (hg : ∀ s', G s' → G' s') : AOpI P ro N ops i G' s := fun w0 μ0 μ a w next Q hs hE hK =>
  h w0 μ0 μ a w next Q hs hE fun μ2 s2 a2 w2 hk hs2 hE2 => hK μ2 s2 a2 w2 (hg s2 hk) hs2 hE2
theorem l_inv (hF : F = AnyL P ro N ops K) (hda : daOk ops = true) (p : Nat) (hp : p ≤ ops.size) (hw : ((List.range ops.size).all fun i => decide (i < p) || (List.range p).all fun k => (da ops i).contains k) = true)
    (Inv : List Nat → AS → Prop) (hstep : ∀ L s i, Inv L s → i < p → i ∉ L → (∀ k ∈ da ops i, k ∈ L) → AOpI P ro N ops i (Inv (i :: L)) s)
    (hend : ∀ L s, Inv L s → (∀ k, k < p ↔ k ∈ L) → F L s) : ∀ (d : Nat) (L : List Nat) (s : AS), Inv L s → (∀ k ∈ L, k < p) → L.Nodup → L.length + d = p → F L s
  | 0, L, s, hI, hL, hn, hd => by
    refine hend L s hI fun k => ⟨fun hk => Classical.byContradiction fun hkn => ?_, hL k⟩
    have hsub : (k :: L) ⊆ List.range p := fun x hx => by
      rcases List.mem_cons.1 hx with rfl | hx
      · exact List.mem_range.2 hk
      · exact List.mem_range.2 (hL x hx)
    have := (List.nodup_cons.2 ⟨hkn, hn⟩).length_le_of_subset hsub
    simp only [List.length_cons, List.length_range] at this
    omega
  | d + 1, L, s, hI, hL, hn, hd => by
    have hex : ∃ k, k < p ∧ k ∉ L := Classical.byContradiction fun hno => by
      have hsub : List.range p ⊆ L := fun x hx => Classical.byContradiction fun hx' => hno ⟨x, List.mem_range.1 hx, hx'⟩
      have := (List.nodup_range (n := p)).length_le_of_subset hsub
      simp only [List.length_range] at this
      omega
    obtain ⟨k0, hk0, hkL⟩ := hex
    have hlt : ∀ i, i ∈ readyL ops L → i < p ∧ i ∉ L ∧ ∀ k ∈ da ops i, k ∈ L := fun i hi => by
      simp only [readyL, List.mem_filter, List.mem_range, Bool.and_eq_true, Bool.not_eq_true', List.all_eq_true] at hi
      obtain ⟨h1, h2, h3⟩ := hi
      have h2' : i ∉ L := fun h => by rw [List.contains_iff_mem.2 h] at h2; cases h2
      refine ⟨Classical.byContradiction fun hip => ?_, h2', fun k hk => List.contains_iff_mem.1 (h3 k hk)⟩
      have := List.all_eq_true.1 hw i (List.mem_range.2 h1)
      rw [Bool.or_eq_true, decide_eq_true_eq] at this
      rcases this with h | h
      · exact hip h
      · have := List.all_eq_true.1 h k0 (List.mem_range.2 hk0)
        exact hkL (List.contains_iff_mem.1 (h3 k0 (List.contains_iff_mem.1 this)))
    -- some operation is ready
    have hready : (readyL ops L).isEmpty = false := by
      have hdak := daOk_spec hda
      -- the least that is not done
      have hmin : ∃ m, m < p ∧ m ∉ L ∧ ∀ k, k < m → k ∈ L := by
        have : ∀ n, (∃ m, m < n ∧ m < p ∧ m ∉ L) → ∃ m, m < p ∧ m ∉ L ∧ ∀ k, k < m → k ∈ L := by
          intro n
          induction n with
          | zero => rintro ⟨m, h, _⟩; omega
          | succ n ih =>
            rintro ⟨m, h1, h2, h3⟩
            by_cases hc : ∃ m, m < n ∧ m < p ∧ m ∉ L
            · exact ih hc
            · refine ⟨m, h2, h3, fun k hk => Classical.byContradiction fun hkn => hc ⟨k, by omega, by omega, hkn⟩⟩
        exact this p ⟨k0, hk0, hk0, hkL⟩
      obtain ⟨m, hm, hmL, hmin⟩ := hmin
      have : m ∈ readyL ops L := by
        simp only [readyL, List.mem_filter, List.mem_range, Bool.and_eq_true, Bool.not_eq_true', List.all_eq_true]
        refine ⟨by omega, ?_, fun k hk => List.contains_iff_mem.2 (hmin k (hdak m (by omega) k hk))⟩
        cases h : L.contains m with
        | false => rfl
        | true => exact absurd (List.contains_iff_mem.1 h) hmL
      cases hl : readyL ops L with
      | nil => rw [hl] at this; cases this
      | cons a l => rfl
    refine l_step hF hda (readyL ops L) rfl hready ?_
    have hall : ∀ l : List Nat, (∀ i ∈ l, i ∈ readyL ops L) → allR l fun i => AOpI P ro N ops i (F (i :: L)) s := by
      intro l
      induction l with
      | nil => intro _; exact trivial
      | cons i l ih =>
        intro hl
        obtain ⟨h1, h2, h3⟩ := hlt i (hl i (List.mem_cons_self ..))
        refine ⟨(hstep L s i hI h1 h2 h3).mono fun s' h' => ?_, ih fun j hj => hl j (List.mem_cons_of_mem _ hj)⟩
        refine l_inv hF hda p hp hw Inv hstep hend d (i :: L) s' h' (fun k hk => ?_) (List.nodup_cons.2 ⟨h2, hn⟩) (by simp only [List.length_cons]; omega)
        rcases List.mem_cons.1 hk with rfl | hk
        · exact h1
        · exact hL k hk
    exact hall _ fun i hi => hi
end
end Go.AW

/- Lists of rows that are owned: an array of slices, each of an array of its own. -/
namespace Go.AW
open Go
def rid (i : Nat) : Nat := (1000000 + i) * 1000 + 30
theorem rid_inj {i j : Nat} (h : rid i = rid j) : i = j := by unfold rid at h; omega
theorem hget_hd {id v : Nat} {o : AObj} {H : Heap} : hget ((id, v, o) :: H) id = some (v, o) := by simp [hget]
theorem hget_tl {id j v : Nat} {o : AObj} {H : Heap} (h : id ≠ j) : hget ((j, v, o) :: H) id = hget H id := by simp [hget, h]
theorem le_shadow {id v v' : Nat} {o o' : AObj} {H : Heap} : ∀ j x, hget ((id, v, o) :: H) j = some x → hget ((id, v, o) :: (id, v', o') :: H) j = some x := fun j x h => by
  by_cases e : j = id
  · subst e; rw [hget_hd] at h ⊢; exact h
  · rw [hget_tl e] at h ⊢; rw [hget_tl e]; exact h
abbrev Rws := List (Nat × List Int)
def hdr : Nat → Rws → List HV
  | _, [] => []
  | k, (v, l) :: t => .ar (rid k) v 1 0 l.length :: hdr (k + 1) t
abbrev eHd : EncL HV := ⟨1, fun h => [h], fun l => l, fun l => by induction l with
  | nil => rfl
  | cons a l ih => exact congrArg (a :: ·) ih, fun _ => rfl⟩
end Go.AW

/- syncmark.table: what follows each number of letters and each letter. -/
namespace Go.AW
open Go Go.Proofs
set_option linter.unusedVariables false
set_option maxHeartbeats 4000000 in
set_option maxRecDepth 100000 in
theorem w_syncmark_table {mark : List UInt8} (hmk : mark.length ≤ 1000000) : Pure Try.prog 80 [HV.str mark] (· = HV.sl 16 ((ftabL mark).length / 16) (eInt.E (ftabL mark))) := by
  refine Pure.of_body Try.func80 rfl rfl (Nat.le_of_ble_eq_true rfl) fun hf => ?_
  clear hf
  unfold Try.f80
  dsimp only [enumS, Nat.reduceAdd]
  refine AW.rgs rfl fun K hK => ?_
  refine mv rfl rfl ?_
  refine b_nil (hK _ (AW.to (to_le (s' := ⟨[(0, HV.str mark)], []⟩) ⟨leS_get ⟨rfl, trivial⟩, fun _ _ h => h⟩ ?_)))
  clear hK K
  have hwl : IntKind.wrap .i64 ((mark.length : Int) + 1) = ((mark.length + 1 : Nat) : Int) := by rw [w64 (by omega) (by omega)]; omega
  refine AW.rgs rfl fun K hK => ?_
  refine mv rfl rfl ?_
  refine bv rfl (v_lenS rfl rfl ty9 rfl) ?_
  refine bv rfl (v_bin rfl rfl b_add) ?_
  rw [hwl]
  refine b_op rfl (o_makeE (fid := 80) eA16 [] 80011 rfl rfl ty87 rfl rfl ty114 rfl rfl (show 0 ≤ ((mark.length + 1 : Nat) : Int) ∧ ((mark.length + 1 : Nat) : Int) ≤ ((mark.length + 1 : Nat) : Int) ∧ ((mark.length + 1 : Nat) : Int) * ((128 : Nat) : Int) ≤ 281474976710656 by omega) (fun v => ?_))
  refine mv rfl rfl ?_
  rw [Int.toNat_natCast, eA16_zero, ← pcell_zero, List.length_replicate]
  refine b_nil (hK _ (AW.to (to_le (s' := ⟨[(0, HV.str mark), (3, HV.ar 80011 v 16 0 (mark.length + 1))], [(80011, v, .arr 16 114 (eInt.E (pcell mark 0)))]⟩) ⟨leS_get ⟨rfl, rfl, trivial⟩, fun _ _ h => h⟩ ?_)))
  clear hK K
  refine AW.seq ?_
  refine AW.rgs rfl fun K hK => ?_
  refine mv rfl rfl ?_
  refine bv rfl (v_lenA rfl rfl ty87 rfl rfl) ?_
  refine mv rfl rfl ?_
  refine b_nil (hK _ (AW.to (to_le (s' := ⟨[(0, HV.str mark), (3, HV.ar 80011 v 16 0 (mark.length + 1)), (13, HV.int .i64 ((mark.length + 1 : Nat) : Int)), (14, HV.int .i64 0)], [(80011, v, .arr 16 114 (eInt.E (pcell mark 0)))]⟩) ⟨leS_get ⟨rfl, rfl, rfl, rfl, trivial⟩, fun _ _ h => h⟩ ?_)))
  clear hK K
  refine AW.block ?_
  refine AW.loopS (fun k : Nat => ⟨[(0, HV.str mark), (3, HV.ar 80011 v 16 0 (mark.length + 1)), (13, HV.int .i64 ((mark.length + 1 : Nat) : Int)), (14, HV.int .i64 (k : Int))], [(80011, v, .arr 16 114 (eInt.E (pcell mark (k * 16))))]⟩) (fun k => k ≤ mark.length + 1) (fun k => mark.length + 1 - k) 0 ⟨fun _ _ h => h, fun _ _ h => by rw [Nat.zero_mul] at h; exact h⟩ (Nat.zero_le _) ?_
  intro k hk
  refine AW.rgs rfl fun K hK => ?_
  refine bv rfl (v_bin rfl rfl b_lss) ?_
  refine b_nil (hK _ (AW.to (to_le (s' := ⟨[(0, HV.str mark), (3, HV.ar 80011 v 16 0 (mark.length + 1)), (13, HV.int .i64 ((mark.length + 1 : Nat) : Int)), (14, HV.int .i64 (k : Int)), (15, HV.bool (decide ((k : Int) < ((mark.length + 1 : Nat) : Int))))], [(80011, v, .arr 16 114 (eInt.E (pcell mark (k * 16))))]⟩) ⟨leS_get ⟨rfl, rfl, rfl, rfl, rfl, trivial⟩, fun _ _ h => h⟩ ?_)))
  clear hK K
  refine AW.cseq rfl (fun hc => ?_) (fun hc => ?_)
  · have hc := of_decide_eq_true hc
    have hkl : k < mark.length + 1 := by omega
    refine AW.skip ?_
    refine AW.seq (AW.block ?_)
    refine AW.rgs rfl fun K hK => ?_
    refine mv rfl rfl ?_
    refine mv rfl rfl ?_
    refine b_nil (hK _ (AW.to (to_le (s' := ⟨[(0, HV.str mark), (3, HV.ar 80011 v 16 0 (mark.length + 1)), (4, HV.int .i64 (k : Int)), (13, HV.int .i64 ((mark.length + 1 : Nat) : Int)), (14, HV.int .i64 (k : Int))], [(80011, v, .arr 16 114 (eInt.E (pcell mark (k * 16))))]⟩) ⟨leS_get ⟨rfl, rfl, rfl, rfl, rfl, trivial⟩, fun _ _ h => h⟩ ?_)))
    clear hK K
    refine AW.rgs rfl fun K hK => ?_
    refine mv rfl rfl ?_
    refine b_nil (hK _ (AW.to (to_le (s' := ⟨[(0, HV.str mark), (3, HV.ar 80011 v 16 0 (mark.length + 1)), (4, HV.int .i64 (k : Int)), (13, HV.int .i64 ((mark.length + 1 : Nat) : Int)), (14, HV.int .i64 (k : Int)), (17, HV.int .i64 0)], [(80011, v, .arr 16 114 (eInt.E (pcell mark (k * 16))))]⟩) ⟨leS_get ⟨rfl, rfl, rfl, rfl, rfl, rfl, trivial⟩, fun _ _ h => h⟩ ?_)))
    clear hK K
    refine AW.block ?_
    refine AW.loopS (fun a : Nat => ⟨[(0, HV.str mark), (3, HV.ar 80011 v 16 0 (mark.length + 1)), (4, HV.int .i64 (k : Int)), (13, HV.int .i64 ((mark.length + 1 : Nat) : Int)), (14, HV.int .i64 (k : Int)), (17, HV.int .i64 (a : Int))], [(80011, v, .arr 16 114 (eInt.E (pcell mark (k * 16 + a))))]⟩) (fun a => a ≤ 16) (fun a => 16 - a) 0 (AS.le_refl _) (Nat.zero_le _) ?_
    intro a ha
    refine AW.rgs rfl fun K hK => ?_
    refine bv rfl (v_bin rfl rfl b_lss) ?_
    refine b_nil (hK _ (AW.to (to_le (s' := ⟨[(0, HV.str mark), (3, HV.ar 80011 v 16 0 (mark.length + 1)), (4, HV.int .i64 (k : Int)), (13, HV.int .i64 ((mark.length + 1 : Nat) : Int)), (14, HV.int .i64 (k : Int)), (17, HV.int .i64 (a : Int)), (18, HV.bool (decide ((a : Int) < 16)))], [(80011, v, .arr 16 114 (eInt.E (pcell mark (k * 16 + a))))]⟩) ⟨leS_get ⟨rfl, rfl, rfl, rfl, rfl, rfl, rfl, trivial⟩, fun _ _ h => h⟩ ?_)))
    clear hK K
    refine AW.cseq rfl (fun hc => ?_) (fun hc => ?_)
    · have hc := of_decide_eq_true hc
      have hal : a < 16 := by omega
      have hwa : IntKind.wrap .i64 ((a : Int) + 1) = ((a + 1 : Nat) : Int) := by rw [w64 (by omega) (by omega)]; omega
      refine AW.skip ?_
      refine AW.seq (AW.block ?_)
      refine AW.rgs rfl fun K hK => ?_
      refine mv rfl rfl ?_
      refine mv rfl rfl ?_
      refine b_nil (hK _ (AW.to (to_le (s' := ⟨[(0, HV.str mark), (3, HV.ar 80011 v 16 0 (mark.length + 1)), (4, HV.int .i64 (k : Int)), (5, HV.int .i64 (a : Int)), (13, HV.int .i64 ((mark.length + 1 : Nat) : Int)), (14, HV.int .i64 (k : Int)), (17, HV.int .i64 (a : Int))], [(80011, v, .arr 16 114 (eInt.E (pcell mark (k * 16 + a))))]⟩) ⟨leS_get ⟨rfl, rfl, rfl, rfl, rfl, rfl, rfl, trivial⟩, fun _ _ h => h⟩ ?_)))
      clear hK K
      have hlet : (([48, 49, 50, 51, 52, 53, 54, 55, 56, 57, 97, 98, 99, 100, 101, 102] : List UInt8).take ((a + 1 : Nat) : Int).toNat).drop ((a : Nat) : Int).toNat = [letters.getD a 0] := by
        rw [Int.toNat_natCast, Int.toNat_natCast]
        show (letters.take (a + 1)).drop a = _
        have hll : a < letters.length := hal
        rw [← List.take_append_getElem hll, List.drop_left' (by rw [List.length_take]; omega), List.getD_eq_getElem?_getD, List.getElem?_eq_getElem hll]
        rfl
      have htk : ((mark.take ((k : Nat) : Int).toNat).drop (0 : Int).toNat) = mark.take k := by rw [Int.toNat_natCast]; rfl
      refine AW.dgs 9 follows rfl rfl fun K hK => ?_
      refine sm rfl rfl ?_
      refine sm rfl rfl ?_
      refine sv rfl (v_sliceS ty9 rfl rfl rfl (show 0 ≤ (0 : Int) ∧ (0 : Int) ≤ (k : Int) ∧ (k : Int) ≤ (mark.length : Int) by omega)) ?_
      refine sm rfl rfl ?_
      refine sm rfl rfl ?_
      refine sv rfl (v_bin rfl rfl b_add) ?_
      rw [hwa]
      refine sv rfl (v_sliceS ty9 rfl rfl rfl (show 0 ≤ (a : Int) ∧ (a : Int) ≤ ((a + 1 : Nat) : Int) ∧ ((a + 1 : Nat) : Int) ≤ ((([48, 49, 50, 51, 52, 53, 54, 55, 56, 57, 97, 98, 99, 100, 101, 102] : List UInt8).length : Nat) : Int) by simp only [List.length_cons, List.length_nil]; omega)) ?_
      refine sv rfl (v_bin rfl rfl (b_sadd (by rw [hlet, htk, List.length_take]; simp only [maxLen, List.length_singleton]; omega))) ?_
      refine sm rfl rfl ?_
      refine s_nil ?_
      rw [hlet, htk]
      refine b_nil (hK _ (AW.to (to_le (s' := ⟨[(0, HV.str mark), (3, HV.ar 80011 v 16 0 (mark.length + 1)), (4, HV.int .i64 (k : Int)), (5, HV.int .i64 (a : Int)), (6, HV.str (mark.take k ++ [letters.getD a 0])), (13, HV.int .i64 ((mark.length + 1 : Nat) : Int)), (14, HV.int .i64 (k : Int)), (17, HV.int .i64 (a : Int))], [(80011, v, .arr 16 114 (eInt.E (pcell mark (k * 16 + a))))]⟩) ⟨leS_get ⟨rfl, rfl, rfl, rfl, rfl, rfl, rfl, rfl, trivial⟩, fun _ _ h => h⟩ ?_)))
      clear hK K
      have hW : (mark.take k ++ [letters.getD a 0]).length ≤ 2000000 := by rw [List.length_append, List.length_take]; simp only [List.length_singleton]; omega
      generalize hWe : (mark.take k ++ [letters.getD a 0]) = W at hW
      refine AW.rgs rfl fun K hK => ?_
      refine mv rfl rfl ?_
      refine bv rfl (v_lenS rfl rfl ty9 rfl) ?_
      refine mv rfl rfl ?_
      refine bv rfl (v_lenS rfl rfl ty9 rfl) ?_
      refine bv rfl (v_min rfl rfl rfl) ?_
      refine mv rfl rfl ?_
      have hmn : min (W.length : Int) (mark.length : Int) = ((min W.length mark.length : Nat) : Int) := by omega
      rw [hmn]
      refine b_nil (hK _ (AW.to (to_le (s' := ⟨[(0, HV.str mark), (3, HV.ar 80011 v 16 0 (mark.length + 1)), (4, HV.int .i64 (k : Int)), (5, HV.int .i64 (a : Int)), (6, HV.str W), (7, HV.int .i64 ((min W.length mark.length : Nat) : Int)), (13, HV.int .i64 ((mark.length + 1 : Nat) : Int)), (14, HV.int .i64 (k : Int)), (17, HV.int .i64 (a : Int))], [(80011, v, .arr 16 114 (eInt.E (pcell mark (k * 16 + a))))]⟩) ⟨leS_get ⟨rfl, rfl, rfl, rfl, rfl, rfl, rfl, rfl, rfl, trivial⟩, fun _ _ h => h⟩ ?_)))
      clear hK K
      refine AW.seq ?_
      refine AW.conseq (Q' := fun e s1 => e = .normal ∧ s1.le ⟨[(0, HV.str mark), (3, HV.ar 80011 v 16 0 (mark.length + 1)), (4, HV.int .i64 (k : Int)), (5, HV.int .i64 (a : Int)), (6, HV.str W), (7, HV.int .i64 ((fgo mark W (min W.length mark.length) : Nat) : Int)), (13, HV.int .i64 ((mark.length + 1 : Nat) : Int)), (14, HV.int .i64 (k : Int)), (17, HV.int .i64 (a : Int))], [(80011, v, .arr 16 114 (eInt.E (pcell mark (k * 16 + a))))]⟩) ?_ ?_
      · refine AW.block ?_
        refine AW.loopS (fun n : Nat => ⟨[(0, HV.str mark), (3, HV.ar 80011 v 16 0 (mark.length + 1)), (4, HV.int .i64 (k : Int)), (5, HV.int .i64 (a : Int)), (6, HV.str W), (7, HV.int .i64 (n : Int)), (13, HV.int .i64 ((mark.length + 1 : Nat) : Int)), (14, HV.int .i64 (k : Int)), (17, HV.int .i64 (a : Int))], [(80011, v, .arr 16 114 (eInt.E (pcell mark (k * 16 + a))))]⟩) (fun n => n ≤ mark.length ∧ fgo mark W n = fgo mark W (min W.length mark.length)) (fun n => n) (min W.length mark.length) (AS.le_refl _) ⟨Nat.min_le_right _ _, rfl⟩ ?_
        rintro n ⟨hn, hfg⟩
        refine AW.seq ?_
        have htn : ((mark.take ((n : Nat) : Int).toNat).drop (0 : Int).toNat) = mark.take n := by rw [Int.toNat_natCast]; rfl
        refine AW.rgs rfl fun K hK => ?_
        refine mv rfl rfl ?_
        refine mv rfl rfl ?_
        refine mv rfl rfl ?_
        refine bv rfl (v_sliceS ty9 rfl rfl rfl (show 0 ≤ (0 : Int) ∧ (0 : Int) ≤ (n : Int) ∧ (n : Int) ≤ (mark.length : Int) by omega)) ?_
        rw [htn]
        refine b_op rfl (o_call rfl rfl rfl rfl (ACallD.pure0 (w_strings_HasSuffix (HasSuffix_eq (a := W) (b := mark.take n) (by omega)))) ?_)
        refine bv rfl (v_not rfl) ?_
        refine b_nil (hK _ (AW.to (to_le (s' := ⟨[(0, HV.str mark), (3, HV.ar 80011 v 16 0 (mark.length + 1)), (4, HV.int .i64 (k : Int)), (5, HV.int .i64 (a : Int)), (6, HV.str W), (7, HV.int .i64 (n : Int)), (13, HV.int .i64 ((mark.length + 1 : Nat) : Int)), (14, HV.int .i64 (k : Int)), (17, HV.int .i64 (a : Int)), (38, HV.bool (!((mark.take n).isSuffixOf W)))], [(80011, v, .arr 16 114 (eInt.E (pcell mark (k * 16 + a))))]⟩) ⟨leS_get ⟨rfl, rfl, rfl, rfl, rfl, rfl, rfl, rfl, rfl, rfl, trivial⟩, fun _ _ h => h⟩ ?_)))
        clear hK K
        refine AW.cond rfl (fun hc => ?_) (fun hc => ?_)
        · have hs : (mark.take n).isSuffixOf W = false := by simpa using hc
          obtain ⟨hn0, hfm⟩ := fgo_miss hs
          have hwn : IntKind.wrap .i64 ((n : Int) - 1) = ((n - 1 : Nat) : Int) := by rw [w64 (by omega) (by omega)]; omega
          refine AW.skip ?_
          refine AW.block ?_
          refine AW.rg rfl fun K hK => ?_
          refine mv rfl rfl ?_
          refine bv rfl (v_bin rfl rfl b_sub) ?_
          refine mv rfl rfl ?_
          refine b_nil (hK _ ?_)
          clear hK K
          exact ⟨n - 1, ⟨by omega, by rw [← hfm]; exact hfg⟩, by omega, ⟨leS_get ⟨rfl, rfl, rfl, rfl, rfl, by rw [← hwn]; rfl, rfl, rfl, rfl, trivial⟩, fun _ _ h => h⟩⟩
        · have hs : (mark.take n).isSuffixOf W = true := by simpa using hc
          refine AW.exit ?_
          refine ⟨rfl, ?_⟩
          rw [← hfg, fgo_hit hs]
          exact ⟨leS_get ⟨rfl, rfl, rfl, rfl, rfl, rfl, rfl, rfl, rfl, trivial⟩, fun _ _ h => h⟩
      rintro e s1 ⟨rfl, hle⟩
      refine ⟨_, hle, ?_⟩
      have hE : ((fgo mark W (min W.length mark.length) : Nat) : Int) = ftabE mark (k * 16 + a) := by
        subst hWe
        unfold ftabE foll
        rw [show (k * 16 + a) / 16 = k by omega, show (k * 16 + a) % 16 = a by omega]
      have hoff : (0 : Nat) + ((k : Nat) : Int).toNat * 16 + ((a : Nat) : Int).toNat * 1 = k * 16 + a := by rw [Int.toNat_natCast, Int.toNat_natCast]; omega
      refine AW.rg rfl fun K hK => ?_
      refine mv rfl rfl ?_
      refine mv rfl rfl ?_
      refine mv rfl rfl ?_
      refine mv rfl rfl ?_
      refine bv rfl (v_idxA ty87 es87 rfl rfl (show 0 ≤ (k : Int) ∧ (k : Int) < ((mark.length + 1 : Nat) : Int) by omega) rfl) ?_
      refine bv rfl (v_arrP ty114 es114 rfl rfl (show 0 ≤ (a : Int) ∧ (a : Int) < ((16 : Nat) : Int) by omega) rfl) ?_
      refine b_op rfl (o_store (cs := [HV.int .i64 ((fgo mark W (min W.length mark.length) : Nat) : Int)]) (zs := eInt.E (pcell mark (k * 16 + a + 1))) rfl rfl rfl ty3 rfl rfl rfl ?_ ?_ ?_)
      · refine Nat.ble_eq_true_of_le ?_
        show ((k : Nat) : Int).toNat * 16 + ((a : Nat) : Int).toNat * 1 + 1 ≤ (List.map _ (pcell mark (k * 16 + a))).length
        rw [List.length_map, pcell_len, Int.toNat_natCast, Int.toNat_natCast]
        omega
      · show (List.map _ (pcell mark (k * 16 + a))).set (((k : Nat) : Int).toNat * 16 + ((a : Nat) : Int).toNat * 1) _ = List.map _ _
        rw [hE, show ((k : Nat) : Int).toNat * 16 + ((a : Nat) : Int).toNat * 1 = k * 16 + a by rw [Int.toNat_natCast, Int.toNat_natCast]; omega, ← pcell_set, List.map_set]
      refine b_nil (hK _ (AW.to (to_le (s' := ⟨[(0, HV.str mark), (3, HV.ar 80011 v 16 0 (mark.length + 1)), (4, HV.int .i64 (k : Int)), (13, HV.int .i64 ((mark.length + 1 : Nat) : Int)), (14, HV.int .i64 (k : Int)), (17, HV.int .i64 (a : Int))], [(80011, v, .arr 16 114 (eInt.E (pcell mark (k * 16 + a + 1))))]⟩) ⟨leS_get ⟨rfl, rfl, rfl, rfl, rfl, rfl, trivial⟩, le_shadow⟩ ?_)))
      clear hK K
      refine AW.rg rfl fun K hK => ?_
      refine bv rfl (v_bin rfl rfl b_add) ?_
      refine mv rfl rfl ?_
      refine b_nil (hK _ ?_)
      clear hK K
      exact ⟨a + 1, by omega, by omega, ⟨leS_get ⟨rfl, rfl, rfl, rfl, rfl, by rw [← hwa]; rfl, trivial⟩, fun _ _ h => h⟩⟩
    have hc := of_decide_eq_false hc
    have ha6 : a = 16 := by omega
    subst ha6
    have hwk : IntKind.wrap .i64 ((k : Int) + 1) = ((k + 1 : Nat) : Int) := by rw [w64 (by omega) (by omega)]; omega
    refine AW.exit ?_
    refine AW.rg rfl fun K hK => ?_
    refine bv rfl (v_bin rfl rfl b_add) ?_
    refine mv rfl rfl ?_
    refine b_nil (hK _ ?_)
    clear hK K
    exact ⟨k + 1, by omega, by omega, ⟨leS_get ⟨rfl, rfl, rfl, by rw [← hwk]; rfl, trivial⟩, fun _ _ h => by rw [Nat.add_mul, Nat.one_mul] at h; exact h⟩⟩
  have hc := of_decide_eq_false hc
  have hke : k = mark.length + 1 := by omega
  subst hke
  rw [pcell_full mark (Nat.le_refl _)]
  refine AW.exit ?_
  refine AW.rgs rfl fun K hK => ?_
  refine mv rfl rfl ?_
  refine mv rfl rfl ?_
  refine b_nil (hK _ (AW.to (to_frz 2 [(80011, v, .arr 16 114 (eInt.E (ftabL mark)))] ⟨[(2, HV.sl 16 ((ftabL mark).length / 16) (eInt.E (ftabL mark)))], []⟩ ⟨⟨_, rfl, ?_⟩, trivial⟩ trivial ⟨rfl, trivial⟩ ⟨rfl, trivial⟩ ?_)))
  · rw [ftabL_div]
    exact frz_flat (by show (List.map _ (ftabL mark)).length = _; rw [List.length_map, ftabL_len])
  clear hK K
  refine AW.ret ?_
  exact ret_pure (hs := [HV.sl 16 ((ftabL mark).length / 16) (eInt.E (ftabL mark))]) (.inr rfl) (resT rfl rfl) rfl (by show cleanL _; exact cleanL_map fun _ _ => trivial)
end Go.AW

/- Maps whose keys are structs: making, looking up, setting (what they hold is told by membership). -/
namespace Go.AW
open Go Go.MapKept

structure IsKv (P : Program) (kt : TypeId) (h : HV) (v : Value) : Prop where
  rep : ∀ w μ x, Rep w μ h x → x = v
  lit : ∃ l, keyOf P kt v = some l

def noIt (id : Nat) (H : Heap) : Prop := ∀ j v mv seen cur, hget H j ≠ some (v, .iter id mv seen cur)
theorem noIt_nil {id : Nat} : noIt id [] := fun _ _ _ _ _ h => by cases h
theorem noIt_cons {id i v : Nat} {o : AObj} {H : Heap} (ho : ∀ mv seen cur, o ≠ .iter id mv seen cur) (h : noIt id H) : noIt id ((i, v, o) :: H) := fun j u mv seen cur hj => by
  simp only [hget] at hj
  split at hj
  · cases hj; exact ho _ _ _ rfl
  · exact h _ _ _ _ _ hj
theorem noIt_arr {id i v k : Nat} {e : TypeId} {cs : List HV} {H : Heap} (h : noIt id H) : noIt id ((i, v, .arr k e cs) :: H) := noIt_cons (fun _ _ _ e => by cases e) h
theorem noIt_km {id i v : Nat} {es : List (Value × Value)} {H : Heap} (h : noIt id H) : noIt id ((i, v, .kmap es) :: H) := noIt_cons (fun _ _ _ e => by cases e) h

section
variable {P : Program} {ro : Option Nat} {N : Nat} {s : AS} {w w' : World} {μ : Mu} {H : Heap}

theorem find_kv {kt : TypeId} (L : WideMaps.KeyLaw P kt) (w : World) {kv : Value} (hk : ∃ l, keyOf P kt kv = some l) {ents : Array MapEntry} {es : List (Value × Value)} (he : ents.toList.map (fun x => (x.key, x.val)) = es)
    (hes : ∀ e ∈ es, ∃ l, keyOf P kt e.1 = some l) :
    ((Instr.findKey kt kv ents.toList).run P w = .ok none w ∧ ∀ e ∈ es, e.1 ≠ kv) ∨ ∃ j e, (Instr.findKey kt kv ents.toList).run P w = .ok (some (j, e.val)) w ∧ ents.toList[j]? = some e ∧ e.key = kv ∧ (kv, e.val) ∈ es := by
  obtain ⟨l, hl⟩ := hk
  rcases L.find w hl ents.toList (fun e hm => hes (e.key, e.val) (by rw [← he]; exact List.mem_map.2 ⟨e, hm, rfl⟩)) with ⟨h1, h2⟩ | ⟨j, e, h1, h2, h3⟩
  · refine .inl ⟨h1, fun e hm => ?_⟩
    rw [← he] at hm
    obtain ⟨x, hx, rfl⟩ := List.mem_map.1 hm
    exact h2 x hx
  · refine .inr ⟨j, e, h1, h2, h3, ?_⟩
    rw [← he, ← h3]
    exact List.mem_map.2 ⟨e, List.mem_of_getElem? h2, rfl⟩

theorem AOp.lookupK {o : Oper} {K : AS → Prop} {t kt et : TypeId} {m x : Operand} {id ver : Nat} {hk : HV} {kv : Value} {es : List (Value × Value)} {T Te : TyI} {z : HV} (L : WideMaps.KeyLaw P kt) (hop : o.op = .lookup t m x false) (hN : okd N o.dst = true)
    (hT : ty P t = some T) (hTd : T.desc = .map kt et) (hTe : ty P et = some Te) (hz : constHV Te.zero = some z)
    (hm : s.ev m = some (.mp id ver)) (hx : s.ev x = some hk) (hkv : IsKv P kt hk kv) (hg : hget s.heap id = some (ver, .kmap es)) (hes : ∀ e ∈ es, ∃ l, keyOf P kt e.1 = some l)
    (h1 : (∀ e ∈ es, e.1 ≠ kv) → K (s.put o.dst z)) (h2 : ∀ v, (kv, v) ∈ es → ∃ hv, constHV v = some hv ∧ K (s.put o.dst hv)) : AOp P ro N o K s := by
  refine AOp.value (fun c e => by rw [hop] at e; cases e) hN fun B μ a w hs => ?_
  obtain ⟨b, hl, he, ents, clock, hb, hents⟩ := hs.liveMap (hs.ev hm) hg
  have hxe : a.eval x = kv := hkv.rep w μ _ (hs.ev hx)
  have htd : P.underlying t = some (.map kt et) := by rw [← hTd]; exact (ty_spec hT).1
  obtain ⟨l, hl⟩ := hkv.lit
  have hchk := L.check w ents.isEmpty hl
  rcases find_kv L w hkv.lit hents hes with ⟨h3, h4⟩ | ⟨j, e, h3, h4, h5, h6⟩
  · refine ⟨Te.zero, z, μ, w, s.heap, ?_, hs.sr, Evo.refl w μ, constHV_rep hz, h1 h4⟩
    simp [execOp, hop, hxe, he, Instr.lookup, run_underlying htd, MapKept.run_getObj_map hb, hchk, h3, ty_zero hTe, Result.andThen]
  · obtain ⟨hv, hc, hK⟩ := h2 _ h6
    refine ⟨e.val, hv, μ, w, s.heap, ?_, hs.sr, Evo.refl w μ, constHV_rep hc, hK⟩
    simp [execOp, hop, hxe, he, Instr.lookup, run_underlying htd, MapKept.run_getObj_map hb, hchk, h3, Result.andThen]

theorem AOp.lookupOkK {o : Oper} {K : AS → Prop} {t kt et : TypeId} {m x : Operand} {id ver : Nat} {hk : HV} {kv : Value} {es : List (Value × Value)} {T Te : TyI} {z : HV} (L : WideMaps.KeyLaw P kt) (hop : o.op = .lookup t m x true) (hN : okd N o.dst = true)
    (hT : ty P t = some T) (hTd : T.desc = .map kt et) (hTe : ty P et = some Te) (hz : constHV Te.zero = some z)
    (hm : s.ev m = some (.mp id ver)) (hx : s.ev x = some hk) (hkv : IsKv P kt hk kv) (hg : hget s.heap id = some (ver, .kmap es)) (hes : ∀ e ∈ es, ∃ l, keyOf P kt e.1 = some l)
    (h1 : (∀ e ∈ es, e.1 ≠ kv) → K (s.put o.dst (.tup [z, .bool false]))) (h2 : ∀ v, (kv, v) ∈ es → ∃ hv, constHV v = some hv ∧ K (s.put o.dst (.tup [hv, .bool true]))) : AOp P ro N o K s := by
  refine AOp.value (fun c e => by rw [hop] at e; cases e) hN fun B μ a w hs => ?_
  obtain ⟨b, hl, he, ents, clock, hb, hents⟩ := hs.liveMap (hs.ev hm) hg
  have hxe : a.eval x = kv := hkv.rep w μ _ (hs.ev hx)
  have htd : P.underlying t = some (.map kt et) := by rw [← hTd]; exact (ty_spec hT).1
  obtain ⟨l, hl⟩ := hkv.lit
  have hchk := L.check w ents.isEmpty hl
  rcases find_kv L w hkv.lit hents hes with ⟨h3, h4⟩ | ⟨j, e, h3, h4, h5, h6⟩
  · refine ⟨.tuple #[Te.zero, .bool false], .tup [z, .bool false], μ, w, s.heap, ?_, hs.sr, Evo.refl w μ, ⟨[Te.zero, .bool false], rfl, _, _, rfl, constHV_rep hz, _, _, rfl, rfl, rfl⟩, h1 h4⟩
    simp [execOp, hop, hxe, he, Instr.lookup, run_underlying htd, MapKept.run_getObj_map hb, hchk, h3, ty_zero hTe, Result.andThen]
  · obtain ⟨hv, hc, hK⟩ := h2 _ h6
    refine ⟨.tuple #[e.val, .bool true], .tup [hv, .bool true], μ, w, s.heap, ?_, hs.sr, Evo.refl w μ, ⟨[e.val, .bool true], rfl, _, _, rfl, constHV_rep hc, _, _, rfl, rfl, rfl⟩, hK⟩
    simp [execOp, hop, hxe, he, Instr.lookup, run_underlying htd, MapKept.run_getObj_map hb, hchk, h3, Result.andThen]

structure KPut (es es' : List (Value × Value)) (kv v : Value) : Prop where
  old : ∀ e ∈ es', e ∈ es ∨ e = (kv, v)
  new : (kv, v) ∈ es'
  keep : ∀ e ∈ es, e.1 ≠ kv → e ∈ es'

theorem AOp.mapUpdateK {o : Oper} {K : AS → Prop} {t kt et : TypeId} {m x y : Operand} {id ver : Nat} {hk : HV} {kv v : Value} {es : List (Value × Value)} {T : TyI} {hv : HV} (L : WideMaps.KeyLaw P kt) (hop : o.op = .mapUpdate t m x y ∨ o.op = .insert t m x y) (hN : okd N o.dst = true)
    (hT : ty P t = some T) (hTd : T.desc = .map kt et)
    (hm : s.ev m = some (.mp id ver)) (hx : s.ev x = some hk) (hkv : IsKv P kt hk kv) (hy : s.ev y = some hv) (hv' : ∀ w μ x, Rep w μ hv x → x = v) (hg : hget s.heap id = some (ver, .kmap es)) (hes : ∀ e ∈ es, ∃ l, keyOf P kt e.1 = some l) (hni : noIt id s.heap)
    (h : ∀ es', KPut es es' kv v → K (({ s with heap := hset s.heap id ver (.kmap es') } : AS).put o.dst (.v undef))) : AOp P ro N o K s := by
  refine AOp.skip (fun c e => by rcases hop with hop | hop <;> (rw [hop] at e; cases e)) hN fun B μ a w hs => ?_
  obtain ⟨b, hl, he, ents, clock, hb, hents⟩ := hs.liveMap (hs.ev hm) hg
  have hxe : a.eval x = kv := hkv.rep w μ _ (hs.ev hx)
  have hye : a.eval y = v := hv' w μ _ (hs.ev hy)
  have htd : P.underlying t = some (.map kt et) := by rw [← hTd]; exact (ty_spec hT).1
  obtain ⟨l, hkl⟩ := hkv.lit
  have hchk := L.check w false hkl
  have hlb : b < w.heap.size := (Array.getElem?_eq_some_iff.1 hb).1
  have done : ∀ (ents' : Array MapEntry) (clock' : Nat), (Instr.mapUpdate t (.map (some b)) kv v).run P w = .ok () { w with heap := w.heap.set! b (.map ents' clock') } →
      KPut es (ents'.toList.map (fun x => (x.key, x.val))) kv v →
      ∃ μ' w' H', (execOp a.eval o).run P w = .ok .skip w' ∧ SR w' μ' H' ∧ Evo w μ w' μ' ∧ K (({ s with heap := H' } : AS).put o.dst (.v undef)) := by
    intro ents' clock' hrun hput
    obtain ⟨h1, h2⟩ := hs.sr.upd (w' := { w with heap := w.heap.set! b (.map ents' clock') }) (o' := .kmap (ents'.toList.map (fun x => (x.key, x.val)))) hg
      (fun cur e hr => by
        obtain ⟨lo, hi, hc, _⟩ := hr
        rw [hb] at hc
        cases hc) hl ⟨rfl, rfl, rfl⟩ (by simp)
      (fun b' hb' => by simp [Array.getElem?_setIfInBounds_ne (fun e => hb' e.symm)])
      (fun E => ⟨ents', clock', by simp [hlb], rfl⟩)
      (fun _ j v mver seen cur l hj => absurd hj (hni j v mver seen cur))
    refine ⟨μ, _, _, ?_, h1, h2, h _ hput⟩
    rcases hop with hop | hop <;> (simp only [execOp, hop, hxe, hye, he, Sem.run_bind, hrun, Result.andThen_ok]; rfl)
  rcases find_kv L w hkv.lit hents hes with ⟨h3, h4⟩ | ⟨j, e, h3, h4, h5, h6⟩
  · refine done (ents.push { key := kv, val := v, born := clock }) (clock + 1) ?_ ?_
    · simp [Instr.mapUpdate, run_underlying htd, MapKept.run_getObj_map hb, hchk, h3, run_setObj_map _ hb, Result.andThen]
    · subst hents
      refine ⟨fun e he => ?_, ?_, fun e he _ => ?_⟩
      · simpa using he
      · simp
      · simp only [Array.toList_push, List.map_append, List.map_cons, List.map_nil, List.mem_append]
        exact .inl he
  · have hj : ents[j]? = some e := by simpa using h4
    refine done (ents.modify j fun e => { e with key := kv, val := v }) clock ?_ ?_
    · simp [Instr.mapUpdate, run_underlying htd, MapKept.run_getObj_map hb, hchk, h3, hj, h5, L.stays w hkl, run_setObj_map _ hb, Result.andThen]
    · subst hents
      rw [Array.toList_modify, modify_map_set (fun x : MapEntry => (x.key, x.val)) (fun e => { e with key := kv, val := v }) (kv, v) (fun _ => rfl)]
      have hjm : (ents.toList.map (fun x => (x.key, x.val)))[j]? = some (kv, e.val) := by rw [List.getElem?_map, h4, ← h5]; rfl
      have hjl := (List.getElem?_eq_some_iff.1 hjm).1
      refine ⟨fun x hx => ?_, ?_, fun x hx hne => ?_⟩
      · rcases List.mem_or_eq_of_mem_set hx with h | h
        · exact .inl h
        · exact .inr h
      · exact List.mem_iff_getElem?.2 ⟨j, by rw [List.getElem?_set_self hjl]⟩
      · obtain ⟨i, hi⟩ := List.mem_iff_getElem?.1 hx
        refine List.mem_iff_getElem?.2 ⟨i, ?_⟩
        rw [List.getElem?_set_ne, hi]
        rintro rfl
        rw [hjm] at hi
        cases hi
        exact hne rfl

theorem to_kmap {G : AS → Prop} {sl : List (Nat × HV)} {H : Heap} {id ver : Nat} (hg : hget H id = some (ver, .map [])) (h : G ⟨sl, (id, ver, .kmap []) :: H⟩) : (⟨sl, H⟩ : AS).to G := by
  intro ro N B μ a w hs
  refine ⟨μ, _, h, ⟨hs.size, ⟨hs.sr.ok, fun i v o hi => ?_, fun i x hx => ?_, hs.sr.inj, hs.sr.held⟩, hs.slot, hs.marks, hs.ro⟩, Evo.refl w μ⟩
  · simp only [hget] at hi
    split at hi
    · rename_i e
      subst e
      cases hi
      obtain ⟨l, hl, hor⟩ := hs.sr.has i ver _ hg
      refine ⟨l, hl, ?_⟩
      cases l with
      | none => exact hor.elim
      | some b =>
        obtain ⟨ents, clock, h1, h2, _⟩ := hor
        refine ⟨ents, clock, h1, ?_⟩
        have : ents.toList = [] := by simpa using h2
        rw [this]
        rfl
    · exact hs.sr.has i v o hi
  · obtain ⟨y, hy⟩ := hs.sr.only i x hx
    simp only [hget]
    split
    · exact ⟨_, rfl⟩
    · exact ⟨y, hy⟩
end
section
variable {P : Program} {ro : Option Nat} {N : Nat} {o : Oper} {sl : List (Nat × HV)} {H : Heap} {all : Array Oper} {rest : List Oper} {K : AS → Prop}

theorem b_lookK {d : Nat} {t kt et : TypeId} {a b : Nat} {z : Value} {m x : Operand} {id ver : Nat} {hk : HV} {kv : Value} {es : List (Value × Value)} {Te : TyI} {zh : HV} (L : WideMaps.KeyLaw P kt) (h0 : (o.guard, o.dst, o.op) = (none, some d, .lookup t m x false)) (hT : ty P t = some ⟨.map kt et, a, b, z⟩) (hTe : ty P et = some Te) (hz : constHV Te.zero = some zh)
    (hm : (⟨sl, H⟩ : AS).ev m = some (.mp id ver)) (hx : (⟨sl, H⟩ : AS).ev x = some hk) (hkv : IsKv P kt hk kv) (hg : hget H id = some (ver, .kmap es)) (hes : ∀ e ∈ es, ∃ l, keyOf P kt e.1 = some l)
    (h1 : (∀ e ∈ es, e.1 ≠ kv) → bops P ro N all rest K ⟨(d, zh) :: sl, H⟩) (h2 : ∀ v, (kv, v) ∈ es → ∃ hv, constHV v = some hv ∧ bops P ro N all rest K ⟨(d, hv) :: sl, H⟩) : bops P ro N all (o :: rest) K ⟨sl, H⟩ := by
  obtain ⟨e1, e2⟩ := Prod.mk.inj h0
  obtain ⟨e2, e3⟩ := Prod.mk.inj e2
  refine b_opX e1 fun hN => AOp.lookupK L e3 hN hT rfl hTe hz hm hx hkv hg hes (fun hn => ?_) (fun v hv => ?_)
  · rw [e2]; exact bops_le (put_le (s := ⟨sl, H⟩) d _) (h1 hn)
  · obtain ⟨hv', hc, hK⟩ := h2 v hv
    exact ⟨hv', hc, by rw [e2]; exact bops_le (put_le (s := ⟨sl, H⟩) d _) hK⟩
theorem b_setK {t kt et : TypeId} {a b : Nat} {z : Value} {m x y : Operand} {id ver : Nat} {hk : HV} {kv v : Value} {es : List (Value × Value)} {hv : HV} (L : WideMaps.KeyLaw P kt) (h0 : (o.guard, o.dst, o.op) = (none, none, .mapUpdate t m x y) ∨ (o.guard, o.dst, o.op) = (none, none, .insert t m x y)) (hT : ty P t = some ⟨.map kt et, a, b, z⟩)
    (hm : (⟨sl, H⟩ : AS).ev m = some (.mp id ver)) (hx : (⟨sl, H⟩ : AS).ev x = some hk) (hkv : IsKv P kt hk kv) (hy : (⟨sl, H⟩ : AS).ev y = some hv) (hv' : ∀ w μ x, Rep w μ hv x → x = v) (hg : hget H id = some (ver, .kmap es)) (hes : ∀ e ∈ es, ∃ l, keyOf P kt e.1 = some l) (hni : noIt id H)
    (h : ∀ es', KPut es es' kv v → bops P ro N all rest K ⟨sl, (id, ver, .kmap es') :: H⟩) : bops P ro N all (o :: rest) K ⟨sl, H⟩ := by
  have e1 : o.guard = none := by rcases h0 with h0 | h0 <;> exact (Prod.mk.inj h0).1
  have e2 : o.dst = none := by rcases h0 with h0 | h0 <;> exact (Prod.mk.inj (Prod.mk.inj h0).2).1
  have e3 : o.op = .mapUpdate t m x y ∨ o.op = .insert t m x y := by 
    rcases h0 with h0 | h0
    · exact .inl (Prod.mk.inj (Prod.mk.inj h0).2).2
    · exact .inr (Prod.mk.inj (Prod.mk.inj h0).2).2
  refine b_opX e1 fun hN => AOp.mapUpdateK L e3 hN hT rfl hm hx hkv hy hv' hg hes hni fun es' hp => ?_
  rw [e2]
  exact bops_le (putN_le (s := ⟨sl, H⟩) id ver _ _) (h es' hp)
theorem o_lookOkK (hN : okd N o.dst = true) {d : Nat} {t kt et : TypeId} {a b : Nat} {z : Value} {m x : Operand} {id ver : Nat} {hk : HV} {kv : Value} {es : List (Value × Value)} {Te : TyI} {zh : HV} (L : WideMaps.KeyLaw P kt) (h0 : (o.dst, o.op) = (some d, .lookup t m x true)) (hT : ty P t = some ⟨.map kt et, a, b, z⟩) (hTe : ty P et = some Te) (hz : constHV Te.zero = some zh)
    (hm : (⟨sl, H⟩ : AS).ev m = some (.mp id ver)) (hx : (⟨sl, H⟩ : AS).ev x = some hk) (hkv : IsKv P kt hk kv) (hg : hget H id = some (ver, .kmap es)) (hes : ∀ e ∈ es, ∃ l, keyOf P kt e.1 = some l)
    (h1 : (∀ e ∈ es, e.1 ≠ kv) → bops P ro N all rest K ⟨(d, .tup [zh, .bool false]) :: sl, H⟩) (h2 : ∀ v, (kv, v) ∈ es → ∃ hv, constHV v = some hv ∧ bops P ro N all rest K ⟨(d, .tup [hv, .bool true]) :: sl, H⟩) : AOp P ro N o (fun s' => bops P ro N all rest K s') ⟨sl, H⟩ := by
  obtain ⟨e2, e3⟩ := Prod.mk.inj h0
  refine AOp.lookupOkK L e3 hN hT rfl hTe hz hm hx hkv hg hes (fun hn => ?_) (fun v hv => ?_)
  · rw [e2]; exact bops_le (put_le (s := ⟨sl, H⟩) d _) (h1 hn)
  · obtain ⟨hv', hc, hK⟩ := h2 v hv
    exact ⟨hv', hc, by rw [e2]; exact bops_le (put_le (s := ⟨sl, H⟩) d _) hK⟩
theorem ret_A {s : AS} {rvs : List ResultVar} {hs : List HV} {q : HV} {e : Exit} {K : HV → Heap → Prop} (he : e = .normal ∨ e = .ret) (hr : resAll P s rvs fun hs' => hs' = hs) (hj : joinR hs = q) (hk : K q s.heap) : retQ P rvs K e s :=
  ⟨he, resAll_mono hr fun hs' e => by subst e; exact ⟨q, s.heap, by rw [hj]; exact Conv.refl _ _, hk⟩⟩
end
end Go.AW

/- syncmark.search.can: whether a bad word goes on from a place; what is known is kept in a map. -/
namespace Go.AW
open Go Go.Proofs
set_option linter.unusedVariables false
abbrev TPl := TStateReadBadLeft
abbrev plcH (p : TPl) : HV := HV.agg [HV.int .i64 p.1, HV.int .i64 p.2.1, HV.bool p.2.2.1, HV.int .i64 p.2.2.2]
def plcV (p : TPl) : Value := .agg #[.int .i64 p.1, .int .i64 p.2.1, .bool p.2.2.1, .int .i64 p.2.2.2]
theorem plcV_inj {p q : TPl} (h : plcV p = plcV q) : p = q := by
  obtain ⟨a, b, c, d⟩ := p
  obtain ⟨a', b', c', d'⟩ := q
  simp only [plcV, Value.agg.injEq, Array.mk.injEq, List.cons.injEq, Value.int.injEq, Value.bool.injEq, true_and, and_true] at h
  obtain ⟨rfl, rfl, rfl, rfl⟩ := h
  rfl
def plcW (p : TPl) : Prop := (Lit.int .i64 p.1).wf = true ∧ (Lit.int .i64 p.2.1).wf = true ∧ (Lit.int .i64 p.2.2.2).wf = true
theorem plcLaw : WideMaps.KeyLaw Try.prog 81 := deep_law (m := 3) (by decide) (by kernel_rfl) (by kernel_rfl) (by kernel_rfl)
theorem plc_hkey (a b d : Int) (c : Bool) : hkey Try.prog (Try.prog.types.size + 1) 81 [HV.int .i64 a, HV.int .i64 b, HV.bool c, HV.int .i64 d] = some [Lit.int .i64 a, Lit.int .i64 b, Lit.bool c, Lit.int .i64 d] := by kernel_rfl
theorem plc_und : (match Try.prog.underlying 81 with | some (.struct _) => true | _ => false) = true := by kernel_rfl
theorem plc_ktf (a b d : Int) (c : Bool) : (Try.prog.keyType 81 && (Value.agg #[.int .i64 a, .int .i64 b, .bool c, .int .i64 d]).formed Try.prog 81) = true := by kernel_rfl
theorem plc_kv {p : TPl} (h : plcW p) : IsKv Try.prog 81 (plcH p) (plcV p) where
  rep := by
    rintro w μ x ⟨_, vs, rfl, x1, _, rfl, ⟨rfl, _⟩, x2, _, rfl, ⟨rfl, _⟩, x3, _, rfl, rfl, x4, _, rfl, ⟨rfl, _⟩, rfl⟩
    rfl
  lit := by
    obtain ⟨h1, h2, h3⟩ := h
    have hr : RepL default (⟨0, fun _ => none, fun _ => False⟩ : Mu) (cStateReadBadLeft p) [.int .i64 p.1, .int .i64 p.2.1, .bool p.2.2.1, .int .i64 p.2.2.2] := ⟨_, _, rfl, ⟨rfl, h1⟩, _, _, rfl, ⟨rfl, h2⟩, _, _, rfl, rfl, _, _, rfl, ⟨rfl, h3⟩, rfl⟩
    have hl := hkey_lits hr (plc_hkey p.1 p.2.1 p.2.2.2 p.2.2.1)
    have hu := plc_und
    unfold keyOf plcV
    split
    · rename_i he; rw [he] at hu; cases hu
    · rw [if_pos (plc_ktf _ _ _ _)]
      show ∃ l, Option.map _ (Try.prog.keyLits _ _ [.int .i64 p.1, .int .i64 p.2.1, .bool p.2.2.1, .int .i64 p.2.2.2]) = some l
      rw [hl]
      exact ⟨_, rfl⟩
    · rename_i h1 h2
      split at hu
      · rename_i fs he; exact absurd he (h2 fs)
      · cases hu

structure CanSpec (s : TGMarkTableNextMemo) (f : TPl → Bool) (stp : TPl → TFromLabelTo → TPl) (lv : Int → List TFromLabelTo) (okp : TPl → Prop) : Prop where
  rng : ∀ p, okp p → plcW p ∧ 0 ≤ p.2.2.2
  zero : ∀ p, okp p → p.2.2.2 = 0 → m_syncmark_search_ends s p = some (f p)
  next : ∀ p, okp p → p.2.2.2 ≠ 0 → idx s.2.2.2.1 p.1 = some (lv p.1) ∧ (lv p.1).length ≤ 1000000 ∧ f p = (lv p.1).any (fun x => f (stp p x)) ∧ ∀ x ∈ lv p.1, m_syncmark_search_step s p x = some (stp p x) ∧ okp (stp p x) ∧ (stp p x).2.2.2 = p.2.2.2 - 1
  bnd : ∀ (l : List TPl) (n : Int), l.Nodup → (∀ p ∈ l, okp p ∧ p.2.2.2 = n) → l.length ≤ 1000000
def MOk (f : TPl → Bool) (okp : TPl → Prop) (es : List (Value × Value)) : Prop := ∀ e ∈ es, ∃ p, okp p ∧ e = (plcV p, .bool (f p))
abbrev sr (g : TLabelsStatesEdges) (mk : List UInt8) (tb : List Int) (nx : List (List TFromLabelTo)) (mw : Nat) : TGMarkTableNextMemo := (g, mk, tb, nx, 54015, mw)
abbrev SH (g : TLabelsStatesEdges) (mk : List UInt8) (tb : List Int) (nx : List (List TFromLabelTo)) (mw : Nat) : HV := HV.fptr (cGMarkTableNextMemo (sr g mk tb nx mw)) 0
section
variable {g : TLabelsStatesEdges} {mk : List UInt8} {tb : List Int} {nx : List (List TFromLabelTo)} {mw : Nat} {f : TPl → Bool} {stp : TPl → TFromLabelTo → TPl} {lv : Int → List TFromLabelTo} {okp : TPl → Prop}
theorem MOk.put {es es' : List (Value × Value)} {p : TPl} (h : MOk f okp es) (hp : okp p) (hk : KPut es es' (plcV p) (.bool (f p))) : MOk f okp es' := fun e he => by
  rcases hk.old e he with h1 | h1
  · exact h e h1
  · exact ⟨p, hp, h1⟩
theorem MOk.lits {s : TGMarkTableNextMemo} (C : CanSpec s f stp lv okp) {es : List (Value × Value)} (h : MOk f okp es) : ∀ e ∈ es, ∃ l, keyOf Try.prog 81 e.1 = some l := fun e he => by
  obtain ⟨p, hp, rfl⟩ := h e he
  exact (plc_kv (C.rng p hp).1).lit
theorem can_drop {H0 : Heap} {v : Nat} {o o' : AObj} (h9 : hget H0 55009 = none) : ∀ j x, hget ((54015, mw, o) :: H0) j = some x → hget ((55009, v, o') :: (54015, mw, o) :: H0) j = some x := fun j x hx => by
  by_cases e : j = 55009
  · subst e
    rw [hget_tl (by decide), h9] at hx
    cases hx
  · rw [hget_tl e]; exact hx

set_option maxHeartbeats 4000000 in
set_option maxRecDepth 100000 in
theorem can_call (C : CanSpec (sr g mk tb nx mw) f stp lv okp) : ∀ (n : Nat) (p : TPl) (es : List (Value × Value)) (H0 : Heap), okp p → p.2.2.2.toNat = n → MOk f okp es → noIt 54015 H0 → hget H0 55009 = none →
    ACall Try.prog 55 [SH g mk tb nx mw, plcH p] ((54015, mw, .kmap es) :: H0) (fun r H' => r = HV.bool (f p) ∧ ∃ es', MOk f okp es' ∧ ∀ j x, hget ((54015, mw, .kmap es') :: H0) j = some x → hget H' j = some x) := by
  intro n
  induction n using Nat.strongRecOn with
  | _ n ih =>
    intro p es H0 hp hn hm hni h9
    obtain ⟨hpw, hp0⟩ := C.rng p hp
    refine ACall.of_body Try.func55 rfl rfl (Nat.le_of_ble_eq_true rfl) ?_
    unfold Try.f55
    dsimp only [enumS, Nat.reduceAdd]
    refine AW.rgs rfl fun K hK => ?_
    refine b_op rfl (o_box rfl rfl rfl ?_)
    refine mv rfl rfl ?_
    refine b_nil (hK _ (AW.to (to_le (s' := ⟨[(0, SH g mk tb nx mw), (3, HV.fptr (cStateReadBadLeft p) 0)], (54015, mw, .kmap es) :: H0⟩) ⟨leS_get ⟨rfl, rfl, trivial⟩, fun _ _ h => h⟩ ?_)))
    clear hK K
    refine AW.seq ?_
    refine AW.rgs rfl fun K hK => ?_
    refine bv rfl (v_fieldAddrF fo81_3 rfl) ?_
    refine bv rfl (v_loadF ty3 rfl (l_lit rfl rfl)) ?_
    refine bv rfl (v_bin rfl rfl b_eql) ?_
    refine b_nil (hK _ (AW.to (to_le (s' := ⟨[(0, SH g mk tb nx mw), (3, HV.fptr (cStateReadBadLeft p) 0), (12, HV.bool (decide (p.2.2.2 = 0)))], (54015, mw, .kmap es) :: H0⟩) ⟨leS_get ⟨rfl, rfl, rfl, trivial⟩, fun _ _ h => h⟩ ?_)))
    clear hK K
    refine AW.cond rfl (fun hc => ?_) (fun hc => ?_)
    · have hc := of_decide_eq_true hc
      have hz := C.zero p hp hc
      refine AW.rgs rfl fun K hK => ?_
      refine mv rfl rfl ?_
      refine bv rfl (v_loadF ty81 rfl (l_litA rfl (Nat.le_of_ble_eq_true rfl) rfl)) ?_
      refine b_op rfl (o_call rfl rfl rfl rfl (ACallD.pure0 (w_syncmark_search_ends hz)) ?_)
      refine mv rfl rfl ?_
      refine b_nil (hK _ (AW.to (to_le (s' := ⟨[(4, HV.bool (f p))], (54015, mw, .kmap es) :: H0⟩) ⟨leS_get ⟨rfl, trivial⟩, fun _ _ h => h⟩ ?_)))
      clear hK K
      refine AW.ret ?_
      exact ret_A (hs := [HV.bool (f p)]) (.inr rfl) (resT rfl rfl) rfl ⟨rfl, es, hm, fun _ _ h => h⟩
    have hc := of_decide_eq_false hc
    obtain ⟨hidx, hll, hfl, hlx⟩ := C.next p hp hc
    generalize lv p.1 = l at hidx hll hfl hlx
    refine AW.skip ?_
    refine AW.seq ?_
    refine AW.dys follows fun K hK => ?_
    refine y_st 5 rfl rfl ?_
    refine sm rfl rfl ?_
    refine sv rfl (v_nilF rfl) ?_
    refine sv rfl (v_fieldAddrF fo90_4 rfl) ?_
    refine sv rfl (v_loadF ty86 rfl (l_lit rfl rfl)) ?_
    refine sv rfl (v_loadF ty81 rfl (l_litA rfl (Nat.le_of_ble_eq_true rfl) rfl)) ?_
    refine s_nil ?_
    refine y_opX rfl rfl rfl rfl (fun hN => o_lookOkK hN plcLaw rfl ty86 ty4 rfl rfl rfl (plc_kv hpw) rfl (hm.lits C) (fun hno => ?_) (fun v hv => ?_))
    rotate_left
    · have hvb : v = .bool (f p) := by
        obtain ⟨q, _, e⟩ := hm _ hv
        have e1 := congrArg Prod.fst e
        have e2 := congrArg Prod.snd e
        simp only at e1 e2
        rw [← plcV_inj e1] at e2
        exact e2
      subst hvb
      refine ⟨HV.bool (f p), rfl, ?_⟩
      refine b_nil ?_
      refine y_st 11 rfl rfl ?_
      refine sm rfl rfl ?_
      refine sv rfl (v_extract rfl rfl) ?_
      refine sv rfl (v_extract rfl rfl) ?_
      refine sm rfl rfl ?_
      refine sm rfl rfl ?_
      refine s_nil ?_
      refine y_nil rfl (hK _ (AW.to (to_le (s' := ⟨[(5, HV.bool (f p)), (6, HV.bool true)], (54015, mw, .kmap es) :: H0⟩) ⟨leS_get ⟨rfl, rfl, trivial⟩, fun _ _ h => h⟩ ?_)))
      clear hK K
      refine AW.rgs rfl fun K hK => ?_
      refine mv rfl rfl ?_
      refine b_nil (hK _ (AW.to (to_le (s' := ⟨[(5, HV.bool (f p)), (25, HV.bool true)], (54015, mw, .kmap es) :: H0⟩) ⟨leS_get ⟨rfl, rfl, trivial⟩, fun _ _ h => h⟩ ?_)))
      clear hK K
      refine AW.cond rfl (fun _ => ?_) (fun hc => by cases hc)
      refine AW.rgs rfl fun K hK => ?_
      refine mv rfl rfl ?_
      refine mv rfl rfl ?_
      refine b_nil (hK _ (AW.to (to_le (s' := ⟨[(4, HV.bool (f p))], (54015, mw, .kmap es) :: H0⟩) ⟨leS_get ⟨rfl, trivial⟩, fun _ _ h => h⟩ ?_)))
      clear hK K
      refine AW.ret ?_
      exact ret_A (hs := [HV.bool (f p)]) (.inr rfl) (resT rfl rfl) rfl ⟨rfl, es, hm, fun _ _ h => h⟩
    refine b_nil ?_
    refine y_st 11 rfl rfl ?_
    refine sm rfl rfl ?_
    refine sv rfl (v_extract rfl rfl) ?_
    refine sv rfl (v_extract rfl rfl) ?_
    refine sm rfl rfl ?_
    refine sm rfl rfl ?_
    refine s_nil ?_
    refine y_nil rfl (hK _ (AW.to (to_le (s' := ⟨[(0, SH g mk tb nx mw), (3, HV.fptr (cStateReadBadLeft p) 0), (6, HV.bool false)], (54015, mw, .kmap es) :: H0⟩) ⟨leS_get ⟨rfl, rfl, rfl, trivial⟩, fun _ _ h => h⟩ ?_)))
    clear hK K
    refine AW.rgs rfl fun K hK => ?_
    refine mv rfl rfl ?_
    refine b_nil (hK _ (AW.to (to_le (s' := ⟨[(0, SH g mk tb nx mw), (3, HV.fptr (cStateReadBadLeft p) 0), (25, HV.bool false)], (54015, mw, .kmap es) :: H0⟩) ⟨leS_get ⟨rfl, rfl, rfl, trivial⟩, fun _ _ h => h⟩ ?_)))
    clear hK K
    refine AW.cond rfl (fun hc => by cases hc) (fun _ => ?_)
    refine AW.skip ?_
    refine AW.rgs rfl fun K hK => ?_
    refine mv rfl rfl ?_
    refine b_nil (hK _ (AW.to (to_le (s' := ⟨[(0, SH g mk tb nx mw), (3, HV.fptr (cStateReadBadLeft p) 0), (7, HV.bool false)], (54015, mw, .kmap es) :: H0⟩) ⟨leS_get ⟨rfl, rfl, rfl, trivial⟩, fun _ _ h => h⟩ ?_)))
    clear hK K
    refine AW.seq ?_
    refine AW.conseq (Q' := fun e s1 => e = .normal ∧ ∃ es', MOk f okp es' ∧ s1.le ⟨[(0, SH g mk tb nx mw), (3, HV.fptr (cStateReadBadLeft p) 0), (7, HV.bool (f p))], (54015, mw, .kmap es') :: H0⟩) ?_ ?_
    rotate_left
    · rintro e s1 ⟨rfl, es2, hm2, hle⟩
      refine ⟨_, hle, ?_⟩
      refine AW.dgs 6 follows rfl rfl fun K hK => ?_
      refine sm rfl rfl ?_
      refine sv rfl (v_nilF rfl) ?_
      refine sv rfl (v_fieldAddrF fo90_4 rfl) ?_
      refine sv rfl (v_loadF ty86 rfl (l_lit rfl rfl)) ?_
      refine sv rfl (v_loadF ty81 rfl (l_litA rfl (Nat.le_of_ble_eq_true rfl) rfl)) ?_
      refine sm rfl rfl ?_
      refine s_nil ?_
      refine b_setK plcLaw (.inl rfl) ty86 rfl rfl (plc_kv hpw) (hv := HV.bool (f p)) (v := .bool (f p)) rfl (fun w μ x h => h) rfl (hm2.lits C) (noIt_km hni) (fun es3 hput => ?_)
      have hm3 := hm2.put hp hput
      refine b_nil (hK _ (AW.to (to_le (s' := ⟨[(7, HV.bool (f p))], (54015, mw, .kmap es3) :: H0⟩) ⟨leS_get ⟨rfl, trivial⟩, le_shadow⟩ ?_)))
      clear hK K
      refine AW.rgs rfl fun K hK => ?_
      refine mv rfl rfl ?_
      refine mv rfl rfl ?_
      refine b_nil (hK _ (AW.to (to_le (s' := ⟨[(4, HV.bool (f p))], (54015, mw, .kmap es3) :: H0⟩) ⟨leS_get ⟨rfl, trivial⟩, fun _ _ h => h⟩ ?_)))
      clear hK K
      refine AW.ret ?_
      exact ret_A (hs := [HV.bool (f p)]) (.inr rfl) (resT rfl rfl) rfl ⟨rfl, es3, hm3, fun _ _ h => h⟩
    refine AW.dgs 10 follows rfl rfl fun K hK => ?_
    refine sm rfl rfl ?_
    refine sv rfl (v_nilF rfl) ?_
    refine sv rfl (v_fieldAddrF fo90_3 rfl) ?_
    refine sv rfl (v_loadF ty88 rfl (l_lit rfl rfl)) ?_
    refine sv rfl (v_fieldAddrF fo81_0 rfl) ?_
    refine sv rfl (v_loadF ty3 rfl (l_lit rfl rfl)) ?_
    refine sv rfl (v_idxF ty88 es88 rfl rfl (idx_lt hidx)) ?_
    refine sv rfl (v_loadF ty22 rfl (l_cell (eSl eFromLabelTo) hidx (o := 0) rfl rfl)) ?_
    refine sv rfl (v_lenF rfl rfl ty22 rfl) ?_
    refine sm rfl rfl ?_
    refine s_nil ?_
    refine b_nil (hK _ (AW.to (to_le (s' := ⟨[(0, SH g mk tb nx mw), (3, HV.fptr (cStateReadBadLeft p) 0), (7, HV.bool false), (34, slE eFromLabelTo l), (35, HV.int .i64 (l.length : Int)), (36, HV.int .i64 0)], (54015, mw, .kmap es) :: H0⟩) ⟨leS_get ⟨rfl, rfl, rfl, rfl, rfl, rfl, trivial⟩, fun _ _ h => h⟩ ?_)))
    clear hK K
    refine AW.block ?_
    refine AW.loopS (fun a : Nat × List (Value × Value) => ⟨[(0, SH g mk tb nx mw), (3, HV.fptr (cStateReadBadLeft p) 0), (7, HV.bool false), (34, slE eFromLabelTo l), (35, HV.int .i64 (l.length : Int)), (36, HV.int .i64 (a.1 : Int))], (54015, mw, .kmap a.2) :: H0⟩)
      (fun a => a.1 ≤ l.length ∧ MOk f okp a.2 ∧ ∀ x ∈ l.take a.1, f (stp p x) = false) (fun a => l.length - a.1) (0, es) (AS.le_refl _) ⟨Nat.zero_le _, hm, fun x hx => by cases hx⟩ ?_
    clear hno hm es
    rintro ⟨i, es⟩ ⟨hi, hm, hfalse⟩
    simp only at hi hm hfalse ⊢
    refine AW.rgs rfl fun K hK => ?_
    refine bv rfl (v_bin rfl rfl b_lss) ?_
    refine b_nil (hK _ (AW.to (to_le (s' := ⟨[(0, SH g mk tb nx mw), (3, HV.fptr (cStateReadBadLeft p) 0), (7, HV.bool false), (34, slE eFromLabelTo l), (35, HV.int .i64 (l.length : Int)), (36, HV.int .i64 (i : Int)), (37, HV.bool (decide ((i : Int) < (l.length : Int))))], (54015, mw, .kmap es) :: H0⟩) ⟨leS_get ⟨rfl, rfl, rfl, rfl, rfl, rfl, rfl, trivial⟩, fun _ _ h => h⟩ ?_)))
    clear hK K
    refine AW.cseq rfl (fun hc => ?_) (fun hc => ?_)
    · have hc := of_decide_eq_true hc
      have hil : i < l.length := by omega
      have hx : idx l (i : Int) = some l[i] := by rw [idx_nat, List.getElem?_eq_getElem hil]
      obtain ⟨hst, hok2, hlf⟩ := hlx l[i] (List.getElem_mem hil)
      have htk : ∀ x, x ∈ l.take (i + 1) → x ∈ l.take i ∨ x = l[i] := fun x hx => by
        rw [← List.take_append_getElem hil] at hx
        rcases List.mem_append.1 hx with h | h
        · exact .inl h
        · exact .inr (List.mem_singleton.1 h)
      have hmem := List.getElem_mem hil
      generalize l[i] = e at hx hst hok2 hlf htk hmem
      refine AW.skip ?_
      refine AW.seq (AW.block ?_)
      refine AW.rgs rfl fun K hK => ?_
      refine bv rfl (v_idxF ty22 es22 rfl rfl (idx_lt hx)) ?_
      refine bv rfl (v_loadF ty53 rfl (l_agg eFromLabelTo hx rfl rfl)) ?_
      refine b_op rfl (o_alloc (fid := 55) (zs := [HV.int .i64 0, HV.int .i64 0, HV.int .i64 0]) 55009 rfl rfl ty53 rfl (fun v9 => ?_))
      refine b_op rfl (o_store (cs := [HV.int .i64 e.1, HV.int .i64 e.2.1, HV.int .i64 e.2.2]) (zs := [HV.int .i64 e.1, HV.int .i64 e.2.1, HV.int .i64 e.2.2]) rfl rfl rfl ty53 rfl rfl rfl rfl rfl ?_)
      refine b_nil (hK _ (AW.to (to_le (s' := ⟨[(0, SH g mk tb nx mw), (3, HV.fptr (cStateReadBadLeft p) 0), (7, HV.bool false), (34, slE eFromLabelTo l), (35, HV.int .i64 (l.length : Int)), (36, HV.int .i64 (i : Int)), (9, HV.ptr 55009 v9 0)], (55009, v9, .arr 3 53 [HV.int .i64 e.1, HV.int .i64 e.2.1, HV.int .i64 e.2.2]) :: (54015, mw, .kmap es) :: H0⟩) ⟨leS_get ⟨rfl, rfl, rfl, rfl, rfl, rfl, rfl, trivial⟩, le_shadow⟩ ?_)))
      clear hK K
      refine AW.rgs rfl fun K hK => ?_
      refine mv rfl rfl ?_
      refine mv rfl rfl ?_
      refine bv rfl (v_loadF ty81 rfl (l_litA rfl (Nat.le_of_ble_eq_true rfl) rfl)) ?_
      refine bv rfl (v_loadP ty53 rfl rfl (l_litA rfl (Nat.le_of_ble_eq_true rfl) rfl)) ?_
      refine b_op rfl (o_call rfl rfl rfl rfl (ACallD.pure0 (w_syncmark_search_step hst)) ?_)
      refine b_to (to_le (s' := ⟨[(0, SH g mk tb nx mw), (3, HV.fptr (cStateReadBadLeft p) 0), (7, HV.bool false), (34, slE eFromLabelTo l), (35, HV.int .i64 (l.length : Int)), (36, HV.int .i64 (i : Int)), (40, SH g mk tb nx mw), (44, plcH (stp p e))], (54015, mw, .kmap es) :: H0⟩) ⟨leS_get ⟨rfl, rfl, rfl, rfl, rfl, rfl, rfl, rfl, trivial⟩, can_drop h9⟩ ?_)
      refine b_op rfl (o_callA rfl rfl rfl rfl ((ih (stp p e).2.2.2.toNat (by omega) (stp p e) es H0 hok2 rfl hm hni h9).mono fun r H' he => ?_))
      obtain ⟨rfl, es2, hm2, hle⟩ := he
      refine b_nil (hK _ (AW.to (to_le (s' := ⟨[(0, SH g mk tb nx mw), (3, HV.fptr (cStateReadBadLeft p) 0), (7, HV.bool false), (34, slE eFromLabelTo l), (35, HV.int .i64 (l.length : Int)), (36, HV.int .i64 (i : Int)), (45, HV.bool (f (stp p e)))], (54015, mw, .kmap es2) :: H0⟩) ⟨leS_get ⟨rfl, rfl, rfl, rfl, rfl, rfl, rfl, trivial⟩, hle⟩ ?_)))
      clear hK K
      refine AW.cond rfl (fun hc => ?_) (fun hc => ?_)
      · have hf : f p = true := by
          rw [hfl]
          exact List.any_eq_true.2 ⟨e, hmem, hc⟩
        refine AW.rgs rfl fun K hK => ?_
        refine mv rfl rfl ?_
        refine b_nil (hK _ (AW.to (to_le (s' := ⟨[(0, SH g mk tb nx mw), (3, HV.fptr (cStateReadBadLeft p) 0), (7, HV.bool true)], (54015, mw, .kmap es2) :: H0⟩) ⟨leS_get ⟨rfl, rfl, rfl, trivial⟩, fun _ _ h => h⟩ ?_)))
        clear hK K
        refine AW.exit ?_
        exact ⟨rfl, es2, hm2, by rw [hf]; exact AS.le_refl _⟩
      · have hnxt : IntKind.wrap .i64 ((i : Int) + 1) = ((i + 1 : Nat) : Int) := by rw [w64 (by omega) (by omega)]; omega
        refine AW.skip ?_
        refine AW.rg rfl fun K hK => ?_
        refine bv rfl (v_bin rfl rfl b_add) ?_
        refine mv rfl rfl ?_
        refine b_nil (hK _ ?_)
        clear hK K
        refine ⟨(i + 1, es2), ⟨by simp only; omega, hm2, fun x hx => ?_⟩, by simp only; omega, ⟨leS_get ⟨rfl, rfl, rfl, rfl, rfl, by rw [← hnxt]; rfl, trivial⟩, fun _ _ h => h⟩⟩
        rcases htk x hx with h1 | rfl
        · exact hfalse x h1
        · exact hc
    have hc := of_decide_eq_false hc
    have hie : i = l.length := by omega
    subst hie
    have hf : f p = false := by
      rw [hfl, List.any_eq_false]
      intro x hx
      rw [List.take_length] at hfalse
      rw [hfalse x hx]
      decide
    refine AW.exit ?_
    refine ⟨rfl, es, hm, ?_⟩
    rw [hf]
    exact ⟨leS_get ⟨rfl, rfl, rfl, trivial⟩, fun _ _ h => h⟩
end
end Go.AW

/- Lists of rows that are owned, of any elements. -/
namespace Go.AW
open Go
section
variable {α : Type} {en : EncL α} {et : TypeId}
abbrev RwsE (α : Type) := List (Nat × List α)
theorem E_nil : en.E [] = [] := by rw [en.hE]; rfl
def rowsOE (en : EncL α) (et : TypeId) : Nat → RwsE α → Heap
  | _, [] => []
  | k, (v, l) :: t => (rid k, v, .arr en.k et (en.E l)) :: rowsOE en et (k + 1) t
def hdrE (en : EncL α) : Nat → RwsE α → List HV
  | _, [] => []
  | k, (v, l) :: t => .ar (rid k) v en.k 0 l.length :: hdrE en (k + 1) t
theorem hdr_lenE : ∀ (k : Nat) (rs : RwsE α), (hdrE en k rs).length = rs.length
  | _, [] => rfl
  | k, (v, l) :: t => by simp [hdrE, hdr_lenE (k + 1) t]
theorem hdr_appE : ∀ (k : Nat) (rs : RwsE α) (v : Nat) (l : List α), hdrE en k (rs ++ [(v, l)]) = hdrE en k rs ++ [.ar (rid (k + rs.length)) v en.k 0 l.length]
  | _, [], _, _ => rfl
  | k, (v, l) :: t, v', l' => by
    simp only [List.cons_append, hdrE, hdr_appE (k + 1) t v' l', List.length_cons]
    rw [show k + 1 + t.length = k + (t.length + 1) by omega]
theorem hdr_getE : ∀ {rs : RwsE α} (k : Nat) {i v : Nat} {l : List α}, rs[i]? = some (v, l) → (hdrE en k rs)[i]? = some (.ar (rid (k + i)) v en.k 0 l.length)
  | [], _, i, _, _, h => by simp at h
  | (v, l) :: t, k, 0, _, _, h => by
    simp at h
    obtain ⟨rfl, rfl⟩ := h
    simp [hdrE]
  | (v, l) :: t, k, i + 1, _, _, h => by
    simp only [List.getElem?_cons_succ] at h
    have := hdr_getE (k + 1) h
    simp only [hdrE, List.getElem?_cons_succ, this]
    rw [show k + 1 + i = k + (i + 1) by omega]
theorem hget_rowsE : ∀ {rs : RwsE α} (k : Nat) {i v : Nat} {l : List α}, rs[i]? = some (v, l) → hget (rowsOE en et k rs) (rid (k + i)) = some (v, .arr en.k et (en.E l))
  | [], _, i, _, _, h => by simp at h
  | (v, l) :: t, k, 0, _, _, h => by
    simp at h
    obtain ⟨rfl, rfl⟩ := h
    exact hget_hd
  | (v, l) :: t, k, i + 1, _, _, h => by
    simp only [List.getElem?_cons_succ] at h
    have := hget_rowsE (k + 1) h
    show hget ((rid k, v, _) :: rowsOE en et (k + 1) t) (rid (k + (i + 1))) = _
    rw [hget_tl (fun e => by have := rid_inj e; omega), ← this, show k + 1 + i = k + (i + 1) by omega]
theorem hget_rows_noE : ∀ (rs : RwsE α) (k : Nat) {id : Nat}, (∀ i, i < rs.length → id ≠ rid (k + i)) → hget (rowsOE en et k rs) id = none
  | [], _, _, _ => rfl
  | (v, l) :: t, k, id, h => by
    show hget ((rid k, v, _) :: rowsOE en et (k + 1) t) id = none
    rw [hget_tl (show id ≠ rid k from h 0 (by simp))]
    exact hget_rows_noE t (k + 1) fun i hi => by
      have := h (i + 1) (by simp; omega)
      rwa [show k + (i + 1) = k + 1 + i by omega] at this
theorem leH_rowsE {H : Heap} : ∀ (rs : RwsE α) (k : Nat), (∀ i v l, rs[i]? = some (v, l) → hget H (rid (k + i)) = some (v, .arr en.k et (en.E l))) → leH H (rowsOE en et k rs)
  | [], _, _ => trivial
  | (v, l) :: t, k, h => ⟨h 0 v l rfl, leH_rowsE t (k + 1) fun i v' l' hi => by
    have := h (i + 1) v' l' (by simpa using hi)
    rwa [show k + (i + 1) = k + 1 + i by omega] at this⟩
theorem rows_leE {rs : RwsE α} {v : Nat} {l : List α} {H : Heap} (hH : ∀ i, hget H (rid i) = none) : ∀ id x, hget (rowsOE en et 0 (rs ++ [(v, l)])) id = some x → hget ((rid rs.length, v, .arr en.k et (en.E l)) :: (H ++ rowsOE en et 0 rs)) id = some x := by
  refine leH_get (leH_rowsE _ 0 fun i v' l' hi => ?_)
  have happ : ∀ (A B : Heap) (id : Nat), hget A id = none → hget (A ++ B) id = hget B id := by
    intro A B id
    induction A with
    | nil => intro _; rfl
    | cons a A ih =>
      obtain ⟨j, u, o⟩ := a
      intro h
      by_cases e : id = j
      · subst e; rw [hget_hd] at h; cases h
      · rw [hget_tl e] at h
        rw [List.cons_append, hget_tl e]
        exact ih h
  rw [Nat.zero_add]
  by_cases hlt : i < rs.length
  · rw [List.getElem?_append_left hlt] at hi
    rw [hget_tl (fun e => by have := rid_inj e; omega), happ _ _ _ (hH i)]
    have := hget_rowsE (en := en) (et := et) 0 hi
    rwa [Nat.zero_add] at this
  · have hi2 : i = rs.length := by
      have := (List.getElem?_eq_some_iff.1 hi).1
      simp at this
      omega
    subst hi2
    simp at hi
    obtain ⟨rfl, rfl⟩ := hi
    exact hget_hd
theorem hdr_setE : ∀ (rs : RwsE α) (k i v : Nat) (l : List α), hdrE en k (rs.set i (v, l)) = (hdrE en k rs).set i (.ar (rid (k + i)) v en.k 0 l.length)
  | [], _, _, _, _ => rfl
  | (u, m) :: t, k, 0, v, l => rfl
  | (u, m) :: t, k, i + 1, v, l => by
    simp only [List.set_cons_succ, hdrE, hdr_setE t (k + 1) i v l]
    rw [show k + 1 + i = k + (i + 1) by omega]
theorem rows_putE {rs : RwsE α} {i v v' : Nat} {l l' : List α} (h : rs[i]? = some (v, l)) : ∀ id x, hget (rowsOE en et 0 (rs.set i (v', l'))) id = some x → hget ((rid i, v', .arr en.k et (en.E l')) :: rowsOE en et 0 rs) id = some x := by
  refine leH_get (leH_rowsE _ 0 fun j w m hm => ?_)
  rw [Nat.zero_add]
  by_cases e : i = j
  · subst e
    have hi := (List.getElem?_eq_some_iff.1 h).1
    rw [List.getElem?_set_self hi] at hm
    cases hm
    exact hget_hd
  · rw [List.getElem?_set_ne e] at hm
    rw [hget_tl (fun x => e (rid_inj x).symm)]
    have := hget_rowsE (en := en) (et := et) 0 hm
    rwa [Nat.zero_add] at this
theorem to_rowsE {s : AS} {G : AS → Prop} (oid ov : Nat) (e' : TypeId) (H : Heap) (n : Nat) (hoid : ∀ i, oid ≠ rid i) (hH : ∀ i, hget H (rid i) = none) (ho : hget H oid = none) :
    ∀ (m : Nat) (rs : RwsE α), rs.length + m = n → (∀ (i v : Nat) (l : List α), rs[i]? = some (v, l) → l = []) → (∀ id x, hget ((oid, ov, .arr 1 e' (hdrE en 0 rs ++ List.replicate m (.v (.slice none 0 0)))) :: (H ++ rowsOE en et 0 rs)) id = some x → hget s.heap id = some x) →
      (∀ rs : RwsE α, rs.length = n → (∀ (i v : Nat) (l : List α), rs[i]? = some (v, l) → l = []) → G ⟨s.slots, (oid, ov, .arr 1 e' (hdrE en 0 rs)) :: (H ++ rowsOE en et 0 rs)⟩) → s.to G
  | 0, rs, hn, hl, hs, h => by
    refine to_le (s' := ⟨s.slots, (oid, ov, .arr 1 e' (hdrE en 0 rs)) :: (H ++ rowsOE en et 0 rs)⟩) ⟨fun _ _ h => h, fun id x hx => hs id x ?_⟩ (h rs (by omega) hl)
    simpa using hx
  | m + 1, rs, hn, hl, hs, h => by
    have hc : (hdrE en 0 rs ++ List.replicate (m + 1) (HV.v (.slice none 0 0)))[rs.length]? = some (.v (.slice none 0 0)) := by
      rw [List.getElem?_append_right (by rw [hdr_lenE]; omega), hdr_lenE, Nat.sub_self]
      rfl
    refine to_bind (to_ownC (rid rs.length) oid ov 1 rs.length en.k et e' (hs _ _ hget_hd) hc (hoid _) fun ver => ?_)
    have happ : ∀ (A B : Heap) (id : Nat), hget A id = none → hget (A ++ B) id = hget B id := by
      intro A B id
      induction A with
      | nil => intro _; rfl
      | cons a A ih =>
        obtain ⟨j, u, o⟩ := a
        intro h
        by_cases e : id = j
        · subst e; rw [hget_hd] at h; cases h
        · rw [hget_tl e] at h
          rw [List.cons_append, hget_tl e]
          exact ih h
    refine to_bind (to_le (s' := ⟨s.slots, (oid, ov, .arr 1 e' (hdrE en 0 (rs ++ [(ver, [])]) ++ List.replicate m (.v (.slice none 0 0)))) :: (H ++ rowsOE en et 0 (rs ++ [(ver, [])]))⟩) ⟨fun _ _ h => h, fun id x hx => ?_⟩ ?_)
    · have ecell : (hdrE en 0 rs ++ List.replicate (m + 1) (HV.v (.slice none 0 0))).set rs.length (.ar (rid rs.length) ver en.k 0 0) = hdrE en 0 (rs ++ [(ver, [])]) ++ List.replicate m (.v (.slice none 0 0)) := by
        rw [hdr_appE, Nat.zero_add, List.set_append_right _ _ (by rw [hdr_lenE]; omega), hdr_lenE, Nat.sub_self, List.replicate_succ, List.set_cons_zero, List.append_assoc]
        rfl
      by_cases e1 : id = oid
      · subst e1
        rw [hget_hd] at hx
        rw [hget_tl (hoid _), hget_hd, ecell]
        exact hx
      · rw [hget_tl e1] at hx
        by_cases e2 : id = rid rs.length
        · subst e2
          rw [happ _ _ _ (hH _)] at hx
          have := hget_rowsE (en := en) (et := et) (rs := rs ++ [(ver, [])]) 0 (i := rs.length) (v := ver) (l := []) (by simp)
          rw [Nat.zero_add] at this
          rw [this, E_nil] at hx
          rw [hget_hd]
          exact hx
        · rw [hget_tl e2, hget_tl e1]
          refine hs id x ?_
          rw [hget_tl e1]
          -- not among the new rows
          by_cases e3 : ∃ y, hget H id = some y
          · obtain ⟨y, hy⟩ := e3
            have hk : ∀ (A B : Heap), hget A id = some y → hget (A ++ B) id = some y := by
              intro A B
              induction A with
              | nil => intro h; cases h
              | cons a A ih =>
                obtain ⟨j, u, o⟩ := a
                intro h
                by_cases e : id = j
                · subst e; rw [hget_hd] at h; rw [List.cons_append, hget_hd]; exact h
                · rw [hget_tl e] at h
                  rw [List.cons_append, hget_tl e]
                  exact ih h
            rw [hk _ _ hy] at hx ⊢
            exact hx
          · have hno : hget H id = none := by
              cases hh : hget H id with
              | none => rfl
              | some y => exact absurd ⟨y, hh⟩ e3
            rw [happ _ _ _ hno] at hx ⊢
            have := rows_leE (en := en) (et := et) (rs := rs) (v := ver) (l := []) (H := []) (fun _ => rfl) id x hx
            rw [hget_tl e2] at this
            exact this
    · refine to_rowsE oid ov e' H n hoid hH ho m (rs ++ [(ver, [])]) (by simp; omega) (fun i v l hi => ?_) (fun id x hx => hx) h
      by_cases hlt : i < rs.length
      · rw [List.getElem?_append_left hlt] at hi
        exact hl i v l hi
      · have hi2 := (List.getElem?_eq_some_iff.1 hi).1
        simp at hi2
        have : i = rs.length := by omega
        subst this
        simp at hi
        first | exact hi.2 | exact hi.2.symm
structure InvG (b np sp : Nat) (base : List (Nat × HV)) (val : Nat → Nat → HV) (H0 : Heap) (H1 : Nat → Heap) (v' : Nat) (L : List Nat) (s : AS) : Prop where
  base : ∀ p ∈ base, sget s.slots p.1 = some p.2
  val : ∀ k ∈ L, k < np → sget s.slots (b + k) = some (val v' k)
  heap : ∀ id x, hget (if sp ∈ L then H1 v' else H0) id = some x → hget s.heap id = some x
theorem sget_putB {b i : Nat} {hv : HV} {sl : List (Nat × HV)} {t : Nat} (h : t ≠ b + i) : sget ((b + i, hv) :: sl) t = sget sl t := by simp only [sget]; rw [if_neg h]
theorem InvG.put {b np sp : Nat} {base : List (Nat × HV)} {val : Nat → Nat → HV} {H0 : Heap} {H1 : Nat → Heap} {v' : Nat} {L : List Nat} {sl : List (Nat × HV)} {H : Heap} (h : InvG b np sp base val H0 H1 v' L ⟨sl, H⟩) (hb : ∀ p ∈ base, p.1 < b) {i : Nat} (hi : i ≠ sp) {hv : HV} (hval : val v' i = hv) : InvG b np sp base val H0 H1 v' (i :: L) ⟨(b + i, hv) :: sl, H⟩ where
  base := fun p hp => by
    have := hb p hp
    show sget ((b + i, hv) :: sl) p.1 = _
    rw [sget_putB (by omega)]
    exact h.base p hp
  val := fun k hk h12 => by
    show sget ((b + i, hv) :: sl) (b + k) = _
    by_cases e : k = i
    · subst e
      simp only [sget, if_true, hval]
    · rw [sget_putB (by omega)]
      rcases List.mem_cons.1 hk with h1 | h1
      · exact absurd h1 e
      · exact h.val k h1 h12
  heap := fun id x hx => by
    refine h.heap id x ?_
    have : (sp ∈ i :: L) ↔ sp ∈ L := by
      rw [List.mem_cons]
      exact ⟨fun h => h.elim (fun e => absurd e.symm hi) (fun h => h), .inr⟩
    by_cases h11 : sp ∈ L
    · rw [if_pos (this.2 h11)] at hx
      rw [if_pos h11]; exact hx
    · rw [if_neg (fun h => h11 (this.1 h))] at hx
      rw [if_neg h11]; exact hx
theorem InvG.turn {b np sp : Nat} {base : List (Nat × HV)} {val : Nat → Nat → HV} {H0 : Heap} {H1 : Nat → Heap} {v' v2 : Nat} {L : List Nat} {sl : List (Nat × HV)} {H H2 : Heap} (h : InvG b np sp base val H0 H1 v' L ⟨sl, H⟩) (hb : ∀ p ∈ base, p.1 < b) (hsp : sp ∉ L) (hsame : ∀ k, k ≠ sp → val v2 k = val v' k)
    (hH : ∀ id x, hget (H1 v2) id = some x → hget H2 id = some x) : InvG b np sp base val H0 H1 v2 (sp :: L) ⟨(b + sp, val v2 sp) :: sl, H2⟩ where
  base := fun p hp => by
    have := hb p hp
    show sget ((b + sp, _) :: sl) p.1 = _
    rw [sget_putB (by omega)]
    exact h.base p hp
  val := fun k hk h12 => by
    show sget ((b + sp, _) :: sl) (b + k) = _
    by_cases e : k = sp
    · subst e
      simp only [sget, if_true]
    · rw [sget_putB (by omega), hsame k e]
      rcases List.mem_cons.1 hk with h1 | h1
      · exact absurd h1 e
      · exact h.val k h1 h12
  heap := fun id x hx => by
    rw [if_pos (List.mem_cons_self ..)] at hx
    exact hH id x hx
theorem all_range {p n : Nat} {L : List Nat} (hall : ∀ k, k < p ↔ k ∈ L) : (List.range n).all (fun i => L.contains i == (List.range p).contains i) = true := by
  rw [List.all_eq_true]
  intro i _
  have e : L.contains i = (List.range p).contains i := by
    rw [Bool.eq_iff_iff, List.contains_iff_mem, List.contains_iff_mem, List.mem_range]
    exact (hall i).symm
  rw [e]
  simp
theorem frz_rowsN {n : Nat} {D : Heap} : ∀ {rs : RwsE α} {k : Nat}, (∀ i v l, rs[i]? = some (v, l) → hget D (rid (k + i)) = some (v, .arr en.k et (en.E l))) → (hz : ∀ x, (en.C x).map (frz n D) = en.C x) → (hdrE en k rs).map (frz (n + 1) D) = (rs.map (·.2)).map (slE en)
  | [], _, _, _ => rfl
  | (v, l) :: t, k, h, hz => by
    simp only [hdrE, List.map_cons]
    rw [frz_rowsN (rs := t) (k := k + 1) (fun i v' l' hi => by
      have := h (i + 1) v' l' (by simpa using hi)
      rwa [show k + (i + 1) = k + 1 + i by omega] at this) hz]
    congr 1
    have h0 := h 0 v l rfl
    rw [Nat.add_zero] at h0
    have hm : (en.E l).map (frz n D) = en.E l := by
      rw [en.hE, List.map_flatMap]
      congr 1
      funext x
      exact hz x
    have hlen : (en.E l).length = l.length * en.k := en.len l
    simp only [frz, h0]
    rw [if_pos ⟨trivial, by omega⟩, List.drop_zero, ← hlen, List.take_length, hm]
    rfl
theorem noneH_rows {H : Heap} : ∀ {rs : RwsE α} {k : Nat}, (∀ i, i < rs.length → hget H (rid (k + i)) = none) → noneH H (rowsOE en et k rs)
  | [], _, _ => trivial
  | (v, l) :: t, k, h => ⟨h 0 (by simp), noneH_rows fun i hi => by
    have := h (i + 1) (by simp; omega)
    rwa [show k + (i + 1) = k + 1 + i by omega] at this⟩
end
end Go.AW
