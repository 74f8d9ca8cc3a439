import Derived.Test.YtccnafddjjamoaaAwL
import Derived.Test.YtccnafddjjamoaaProg
namespace Go.AW
open Go Go.Proofs
theorem ty0 : ty Try.prog 0 = some { desc := TypeDesc.tuple #[], size := 1, bytes := 0, zero := Value.tuple #[] } := by kernel_rfl
theorem ty1 : ty Try.prog 1 = some { desc := TypeDesc.func #[] #[] false, size := 1, bytes := 8, zero := Value.nilFunc } := by kernel_rfl
theorem ty2 : ty Try.prog 2 = some { desc := TypeDesc.int IntKind.i64, size := 1, bytes := 8, zero := Value.int IntKind.i64 (0) } := by kernel_rfl
theorem ty3 : ty Try.prog 3 = some { desc := TypeDesc.int IntKind.i64, size := 1, bytes := 8, zero := Value.int IntKind.i64 (0) } := by kernel_rfl
theorem ty4 : ty Try.prog 4 = some { desc := TypeDesc.bool, size := 1, bytes := 1, zero := Value.bool false } := by kernel_rfl
theorem ty5 : ty Try.prog 5 = some { desc := TypeDesc.int IntKind.u8, size := 1, bytes := 1, zero := Value.int IntKind.u8 (0) } := by kernel_rfl
theorem ty6 : ty Try.prog 6 = some { desc := TypeDesc.int IntKind.u8, size := 1, bytes := 1, zero := Value.int IntKind.u8 (0) } := by kernel_rfl
theorem ty7 : ty Try.prog 7 = some { desc := TypeDesc.struct { toList := [{ name := "x", type := 2, offset := 0, embedded := false, tag := "", pkgPath := "runtime", byteOffset := 0 }, { name := "y", type := 3, offset := 1, embedded := false, tag := "", pkgPath := "runtime", byteOffset := 8 }, { name := "signed", type := 4, offset := 2, embedded := false, tag := "", pkgPath := "runtime", byteOffset := 16 }, { name := "code", type := 6, offset := 3, embedded := false, tag := "", pkgPath := "runtime", byteOffset := 17 }] }, size := 4, bytes := 24, zero := Value.agg { toList := [Value.int IntKind.i64 (0), Value.int IntKind.i64 (0), Value.bool false, Value.int IntKind.u8 (0)] } } := by kernel_rfl
theorem ty8 : ty Try.prog 8 = some { desc := TypeDesc.struct { toList := [{ name := "x", type := 2, offset := 0, embedded := false, tag := "", pkgPath := "runtime", byteOffset := 0 }, { name := "y", type := 3, offset := 1, embedded := false, tag := "", pkgPath := "runtime", byteOffset := 8 }, { name := "signed", type := 4, offset := 2, embedded := false, tag := "", pkgPath := "runtime", byteOffset := 16 }, { name := "code", type := 6, offset := 3, embedded := false, tag := "", pkgPath := "runtime", byteOffset := 17 }] }, size := 4, bytes := 24, zero := Value.agg { toList := [Value.int IntKind.i64 (0), Value.int IntKind.i64 (0), Value.bool false, Value.int IntKind.u8 (0)] } } := by kernel_rfl
theorem ty9 : ty Try.prog 9 = some { desc := TypeDesc.string, size := 1, bytes := 16, zero := Value.string { data := #[] } } := by kernel_rfl
theorem ty10 : ty Try.prog 10 = some { desc := TypeDesc.string, size := 1, bytes := 16, zero := Value.string { data := #[] } } := by kernel_rfl
theorem ty11 : ty Try.prog 11 = some { desc := TypeDesc.string, size := 1, bytes := 16, zero := Value.string { data := #[] } } := by kernel_rfl
theorem ty12 : ty Try.prog 12 = some { desc := TypeDesc.int IntKind.u64, size := 1, bytes := 8, zero := Value.int IntKind.u64 (0) } := by kernel_rfl
theorem ty13 : ty Try.prog 13 = some { desc := TypeDesc.struct { toList := [{ name := "msg", type := 9, offset := 0, embedded := false, tag := "", pkgPath := "runtime", byteOffset := 0 }, { name := "addr", type := 12, offset := 1, embedded := false, tag := "", pkgPath := "runtime", byteOffset := 16 }] }, size := 2, bytes := 24, zero := Value.agg #[Value.string { data := #[] }, Value.int IntKind.u64 (0)] } := by kernel_rfl
theorem ty14 : ty Try.prog 14 = some { desc := TypeDesc.struct { toList := [{ name := "msg", type := 9, offset := 0, embedded := false, tag := "", pkgPath := "runtime", byteOffset := 0 }, { name := "addr", type := 12, offset := 1, embedded := false, tag := "", pkgPath := "runtime", byteOffset := 16 }] }, size := 2, bytes := 24, zero := Value.agg #[Value.string { data := #[] }, Value.int IntKind.u64 (0)] } := by kernel_rfl
theorem ty15 : ty Try.prog 15 = some { desc := TypeDesc.pointer 234, size := 1, bytes := 8, zero := Value.pointer none } := by kernel_rfl
theorem ty16 : ty Try.prog 16 = some { desc := TypeDesc.pointer 237, size := 1, bytes := 8, zero := Value.pointer none } := by kernel_rfl
theorem ty17 : ty Try.prog 17 = some { desc := TypeDesc.pointer 244, size := 1, bytes := 8, zero := Value.pointer none } := by kernel_rfl
theorem ty18 : ty Try.prog 18 = some { desc := TypeDesc.struct { toList := [{ name := "typ", type := 17, offset := 0, embedded := false, tag := "", pkgPath := "internal/runtime/maps", byteOffset := 0 }] }, size := 1, bytes := 8, zero := Value.agg #[Value.pointer none] } := by kernel_rfl
theorem ty19 : ty Try.prog 19 = some { desc := TypeDesc.struct { toList := [{ name := "typ", type := 17, offset := 0, embedded := false, tag := "", pkgPath := "internal/runtime/maps", byteOffset := 0 }] }, size := 1, bytes := 8, zero := Value.agg #[Value.pointer none] } := by kernel_rfl
theorem ty20 : ty Try.prog 20 = some { desc := TypeDesc.interface #[], size := 1, bytes := 16, zero := Value.nilIface } := by kernel_rfl
theorem ty21 : ty Try.prog 21 = some { desc := TypeDesc.int IntKind.i32, size := 1, bytes := 4, zero := Value.int IntKind.i32 (0) } := by kernel_rfl
theorem ty22 : ty Try.prog 22 = some { desc := TypeDesc.slice 66, size := 1, bytes := 24, zero := Value.slice none 0 0 } := by kernel_rfl
theorem ty23 : ty Try.prog 23 = some { desc := TypeDesc.struct { toList := [{ name := "Labels", type := 3, offset := 0, embedded := false, tag := "", pkgPath := "", byteOffset := 0 }, { name := "States", type := 3, offset := 1, embedded := false, tag := "", pkgPath := "", byteOffset := 8 }, { name := "Edges", type := 22, offset := 2, embedded := false, tag := "", pkgPath := "", byteOffset := 16 }] }, size := 3, bytes := 40, zero := Value.agg #[Value.int IntKind.i64 (0), Value.int IntKind.i64 (0), Value.slice none 0 0] } := by kernel_rfl
theorem ty24 : ty Try.prog 24 = some { desc := TypeDesc.struct { toList := [{ name := "Labels", type := 3, offset := 0, embedded := false, tag := "", pkgPath := "", byteOffset := 0 }, { name := "States", type := 3, offset := 1, embedded := false, tag := "", pkgPath := "", byteOffset := 8 }, { name := "Edges", type := 22, offset := 2, embedded := false, tag := "", pkgPath := "", byteOffset := 16 }] }, size := 3, bytes := 40, zero := Value.agg #[Value.int IntKind.i64 (0), Value.int IntKind.i64 (0), Value.slice none 0 0] } := by kernel_rfl
theorem ty25 : ty Try.prog 25 = some { desc := TypeDesc.func #[24, 3] #[4] false, size := 1, bytes := 8, zero := Value.nilFunc } := by kernel_rfl
theorem ty26 : ty Try.prog 26 = some { desc := TypeDesc.func #[] #[4] false, size := 1, bytes := 8, zero := Value.nilFunc } := by kernel_rfl
theorem ty27 : ty Try.prog 27 = some { desc := TypeDesc.int IntKind.i64, size := 1, bytes := 8, zero := Value.int IntKind.i64 (0) } := by kernel_rfl
theorem ty28 : ty Try.prog 28 = some { desc := TypeDesc.tuple #[3, 27], size := 1, bytes := 0, zero := Value.tuple #[Value.int IntKind.i64 (0), Value.int IntKind.i64 (0)] } := by kernel_rfl
theorem ty29 : ty Try.prog 29 = some { desc := TypeDesc.func #[24, 3] #[3, 27] false, size := 1, bytes := 8, zero := Value.nilFunc } := by kernel_rfl
theorem ty30 : ty Try.prog 30 = some { desc := TypeDesc.slice 9, size := 1, bytes := 24, zero := Value.slice none 0 0 } := by kernel_rfl
theorem ty31 : ty Try.prog 31 = some { desc := TypeDesc.tuple #[30, 27], size := 1, bytes := 0, zero := Value.tuple #[Value.slice none 0 0, Value.int IntKind.i64 (0)] } := by kernel_rfl
theorem ty32 : ty Try.prog 32 = some { desc := TypeDesc.func #[24, 3, 3] #[30, 27] false, size := 1, bytes := 8, zero := Value.nilFunc } := by kernel_rfl
theorem ty33 : ty Try.prog 33 = some { desc := TypeDesc.func #[30, 30] #[4] false, size := 1, bytes := 8, zero := Value.nilFunc } := by kernel_rfl
theorem ty34 : ty Try.prog 34 = some { desc := TypeDesc.func #[24, 3, 3] #[4] false, size := 1, bytes := 8, zero := Value.nilFunc } := by kernel_rfl
theorem ty35 : ty Try.prog 35 = some { desc := TypeDesc.func #[9, 9] #[3, 27] false, size := 1, bytes := 8, zero := Value.nilFunc } := by kernel_rfl
theorem ty36 : ty Try.prog 36 = some { desc := TypeDesc.func #[9, 9, 9] #[4] false, size := 1, bytes := 8, zero := Value.nilFunc } := by kernel_rfl
theorem ty37 : ty Try.prog 37 = some { desc := TypeDesc.func #[30] #[4] false, size := 1, bytes := 8, zero := Value.nilFunc } := by kernel_rfl
theorem ty38 : ty Try.prog 38 = some { desc := TypeDesc.func #[30] #[3, 27] false, size := 1, bytes := 8, zero := Value.nilFunc } := by kernel_rfl
theorem ty39 : ty Try.prog 39 = some { desc := TypeDesc.func #[30, 3, 3] #[30] false, size := 1, bytes := 8, zero := Value.nilFunc } := by kernel_rfl
theorem ty40 : ty Try.prog 40 = some { desc := TypeDesc.func #[30] #[30] false, size := 1, bytes := 8, zero := Value.nilFunc } := by kernel_rfl
theorem ty41 : ty Try.prog 41 = some { desc := TypeDesc.func #[30, 5] #[4] false, size := 1, bytes := 8, zero := Value.nilFunc } := by kernel_rfl
theorem ty42 : ty Try.prog 42 = some { desc := TypeDesc.slice 3, size := 1, bytes := 24, zero := Value.slice none 0 0 } := by kernel_rfl
theorem ty43 : ty Try.prog 43 = some { desc := TypeDesc.tuple #[42, 27], size := 1, bytes := 0, zero := Value.tuple #[Value.slice none 0 0, Value.int IntKind.i64 (0)] } := by kernel_rfl
theorem ty44 : ty Try.prog 44 = some { desc := TypeDesc.func #[30] #[42, 27] false, size := 1, bytes := 8, zero := Value.nilFunc } := by kernel_rfl
theorem ty45 : ty Try.prog 45 = some { desc := TypeDesc.tuple #[3, 3, 27], size := 1, bytes := 0, zero := Value.tuple { toList := [Value.int IntKind.i64 (0), Value.int IntKind.i64 (0), Value.int IntKind.i64 (0)] } } := by kernel_rfl
theorem ty46 : ty Try.prog 46 = some { desc := TypeDesc.func #[30, 9] #[3, 3, 27] false, size := 1, bytes := 8, zero := Value.nilFunc } := by kernel_rfl
theorem ty47 : ty Try.prog 47 = some { desc := TypeDesc.func #[42, 42] #[4] false, size := 1, bytes := 8, zero := Value.nilFunc } := by kernel_rfl
theorem ty48 : ty Try.prog 48 = some { desc := TypeDesc.func #[30, 3] #[27] false, size := 1, bytes := 8, zero := Value.nilFunc } := by kernel_rfl
theorem ty49 : ty Try.prog 49 = some { desc := TypeDesc.func #[30, 9, 3] #[4] false, size := 1, bytes := 8, zero := Value.nilFunc } := by kernel_rfl
theorem ty50 : ty Try.prog 50 = some { desc := TypeDesc.func #[24] #[27] false, size := 1, bytes := 8, zero := Value.nilFunc } := by kernel_rfl
theorem ty51 : ty Try.prog 51 = some { desc := TypeDesc.func #[24, 3] #[30, 27] false, size := 1, bytes := 8, zero := Value.nilFunc } := by kernel_rfl
theorem ty52 : ty Try.prog 52 = some { desc := TypeDesc.func #[30, 9] #[4] false, size := 1, bytes := 8, zero := Value.nilFunc } := by kernel_rfl
theorem ty53 : ty Try.prog 53 = some { desc := TypeDesc.func #[24, 5, 5] #[4] false, size := 1, bytes := 8, zero := Value.nilFunc } := by kernel_rfl
theorem ty54 : ty Try.prog 54 = some { desc := TypeDesc.func #[24] #[4] false, size := 1, bytes := 8, zero := Value.nilFunc } := by kernel_rfl
theorem ty55 : ty Try.prog 55 = some { desc := TypeDesc.func #[24] #[42] false, size := 1, bytes := 8, zero := Value.nilFunc } := by kernel_rfl
theorem ty56 : ty Try.prog 56 = some { desc := TypeDesc.func #[24, 3, 3, 3] #[30, 27] false, size := 1, bytes := 8, zero := Value.nilFunc } := by kernel_rfl
theorem ty57 : ty Try.prog 57 = some { desc := TypeDesc.func #[30] #[] false, size := 1, bytes := 8, zero := Value.nilFunc } := by kernel_rfl
theorem ty58 : ty Try.prog 58 = some { desc := TypeDesc.func #[24, 5] #[4] false, size := 1, bytes := 8, zero := Value.nilFunc } := by kernel_rfl
theorem ty59 : ty Try.prog 59 = some { desc := TypeDesc.func #[3, 9] #[27] false, size := 1, bytes := 8, zero := Value.nilFunc } := by kernel_rfl
theorem ty60 : ty Try.prog 60 = some { desc := TypeDesc.tuple #[4, 27], size := 1, bytes := 0, zero := Value.tuple #[Value.bool false, Value.int IntKind.i64 (0)] } := by kernel_rfl
theorem ty61 : ty Try.prog 61 = some { desc := TypeDesc.func #[24, 9] #[4, 27] false, size := 1, bytes := 8, zero := Value.nilFunc } := by kernel_rfl
theorem ty62 : ty Try.prog 62 = some { desc := TypeDesc.func #[24, 42, 9] #[42, 27] false, size := 1, bytes := 8, zero := Value.nilFunc } := by kernel_rfl
theorem ty63 : ty Try.prog 63 = some { desc := TypeDesc.func #[24, 9, 5, 5] #[4] false, size := 1, bytes := 8, zero := Value.nilFunc } := by kernel_rfl
theorem ty64 : ty Try.prog 64 = some { desc := TypeDesc.func #[24, 9] #[42, 27] false, size := 1, bytes := 8, zero := Value.nilFunc } := by kernel_rfl
theorem ty65 : ty Try.prog 65 = some { desc := TypeDesc.struct { toList := [{ name := "From", type := 3, offset := 0, embedded := false, tag := "", pkgPath := "", byteOffset := 0 }, { name := "Label", type := 3, offset := 1, embedded := false, tag := "", pkgPath := "", byteOffset := 8 }, { name := "To", type := 3, offset := 2, embedded := false, tag := "", pkgPath := "", byteOffset := 16 }] }, size := 3, bytes := 24, zero := Value.agg { toList := [Value.int IntKind.i64 (0), Value.int IntKind.i64 (0), Value.int IntKind.i64 (0)] } } := by kernel_rfl
theorem ty66 : ty Try.prog 66 = some { desc := TypeDesc.struct { toList := [{ name := "From", type := 3, offset := 0, embedded := false, tag := "", pkgPath := "", byteOffset := 0 }, { name := "Label", type := 3, offset := 1, embedded := false, tag := "", pkgPath := "", byteOffset := 8 }, { name := "To", type := 3, offset := 2, embedded := false, tag := "", pkgPath := "", byteOffset := 16 }] }, size := 3, bytes := 24, zero := Value.agg { toList := [Value.int IntKind.i64 (0), Value.int IntKind.i64 (0), Value.int IntKind.i64 (0)] } } := by kernel_rfl
theorem ty67 : ty Try.prog 67 = some { desc := TypeDesc.func #[9, 5] #[3] false, size := 1, bytes := 8, zero := Value.nilFunc } := by kernel_rfl
theorem ty68 : ty Try.prog 68 = some { desc := TypeDesc.func #[24, 9] #[4] false, size := 1, bytes := 8, zero := Value.nilFunc } := by kernel_rfl
theorem ty69 : ty Try.prog 69 = some { desc := TypeDesc.tuple #[9, 27], size := 1, bytes := 0, zero := Value.tuple #[Value.string { data := #[] }, Value.int IntKind.i64 (0)] } := by kernel_rfl
theorem ty70 : ty Try.prog 70 = some { desc := TypeDesc.func #[24, 9] #[9, 27] false, size := 1, bytes := 8, zero := Value.nilFunc } := by kernel_rfl
theorem ty71 : ty Try.prog 71 = some { desc := TypeDesc.func #[3, 3] #[30, 27] false, size := 1, bytes := 8, zero := Value.nilFunc } := by kernel_rfl
theorem ty72 : ty Try.prog 72 = some { desc := TypeDesc.func #[30, 3] #[4, 27] false, size := 1, bytes := 8, zero := Value.nilFunc } := by kernel_rfl
theorem ty73 : ty Try.prog 73 = some { desc := TypeDesc.struct { toList := [{ name := "Neg", type := 4, offset := 0, embedded := false, tag := "", pkgPath := "", byteOffset := 0 }, { name := "Mag", type := 9, offset := 1, embedded := false, tag := "", pkgPath := "", byteOffset := 8 }] }, size := 2, bytes := 24, zero := Value.agg #[Value.bool false, Value.string { data := #[] }] } := by kernel_rfl
theorem ty74 : ty Try.prog 74 = some { desc := TypeDesc.struct { toList := [{ name := "Neg", type := 4, offset := 0, embedded := false, tag := "", pkgPath := "", byteOffset := 0 }, { name := "Mag", type := 9, offset := 1, embedded := false, tag := "", pkgPath := "", byteOffset := 8 }] }, size := 2, bytes := 24, zero := Value.agg #[Value.bool false, Value.string { data := #[] }] } := by kernel_rfl
theorem ty75 : ty Try.prog 75 = some { desc := TypeDesc.tuple #[74, 27], size := 1, bytes := 0, zero := Value.tuple { toList := [Value.agg #[Value.bool false, Value.string { data := #[] }], Value.int IntKind.i64 (0)] } } := by kernel_rfl
theorem ty76 : ty Try.prog 76 = some { desc := TypeDesc.func #[3, 3] #[74, 27] false, size := 1, bytes := 8, zero := Value.nilFunc } := by kernel_rfl
theorem ty77 : ty Try.prog 77 = some { desc := TypeDesc.func #[3] #[74] false, size := 1, bytes := 8, zero := Value.nilFunc } := by kernel_rfl
theorem ty78 : ty Try.prog 78 = some { desc := TypeDesc.func #[9] #[30, 27] false, size := 1, bytes := 8, zero := Value.nilFunc } := by kernel_rfl
theorem ty79 : ty Try.prog 79 = some { desc := TypeDesc.func #[5, 5] #[4] false, size := 1, bytes := 8, zero := Value.nilFunc } := by kernel_rfl
theorem ty80 : ty Try.prog 80 = some { desc := TypeDesc.slice 84, size := 1, bytes := 24, zero := Value.slice none 0 0 } := by kernel_rfl
theorem ty81 : ty Try.prog 81 = some { desc := TypeDesc.struct { toList := [{ name := "Letters", type := 3, offset := 0, embedded := false, tag := "", pkgPath := "", byteOffset := 0 }, { name := "Block", type := 3, offset := 1, embedded := false, tag := "", pkgPath := "", byteOffset := 8 }, { name := "Inputs", type := 3, offset := 2, embedded := false, tag := "", pkgPath := "", byteOffset := 16 }, { name := "Rows", type := 80, offset := 3, embedded := false, tag := "", pkgPath := "", byteOffset := 24 }] }, size := 4, bytes := 48, zero := Value.agg { toList := [Value.int IntKind.i64 (0), Value.int IntKind.i64 (0), Value.int IntKind.i64 (0), Value.slice none 0 0] } } := by kernel_rfl
theorem ty82 : ty Try.prog 82 = some { desc := TypeDesc.struct { toList := [{ name := "Letters", type := 3, offset := 0, embedded := false, tag := "", pkgPath := "", byteOffset := 0 }, { name := "Block", type := 3, offset := 1, embedded := false, tag := "", pkgPath := "", byteOffset := 8 }, { name := "Inputs", type := 3, offset := 2, embedded := false, tag := "", pkgPath := "", byteOffset := 16 }, { name := "Rows", type := 80, offset := 3, embedded := false, tag := "", pkgPath := "", byteOffset := 24 }] }, size := 4, bytes := 48, zero := Value.agg { toList := [Value.int IntKind.i64 (0), Value.int IntKind.i64 (0), Value.int IntKind.i64 (0), Value.slice none 0 0] } } := by kernel_rfl
theorem ty83 : ty Try.prog 83 = some { desc := TypeDesc.func #[80, 89] #[4] false, size := 1, bytes := 8, zero := Value.nilFunc } := by kernel_rfl
theorem ty84 : ty Try.prog 84 = some { desc := TypeDesc.slice 87, size := 1, bytes := 24, zero := Value.slice none 0 0 } := by kernel_rfl
theorem ty85 : ty Try.prog 85 = some { desc := TypeDesc.func #[84, 88] #[4] false, size := 1, bytes := 8, zero := Value.nilFunc } := by kernel_rfl
theorem ty86 : ty Try.prog 86 = some { desc := TypeDesc.struct { toList := [{ name := "To", type := 3, offset := 0, embedded := false, tag := "", pkgPath := "", byteOffset := 0 }, { name := "Word", type := 9, offset := 1, embedded := false, tag := "", pkgPath := "", byteOffset := 8 }] }, size := 2, bytes := 24, zero := Value.agg #[Value.int IntKind.i64 (0), Value.string { data := #[] }] } := by kernel_rfl
theorem ty87 : ty Try.prog 87 = some { desc := TypeDesc.struct { toList := [{ name := "To", type := 3, offset := 0, embedded := false, tag := "", pkgPath := "", byteOffset := 0 }, { name := "Word", type := 9, offset := 1, embedded := false, tag := "", pkgPath := "", byteOffset := 8 }] }, size := 2, bytes := 24, zero := Value.agg #[Value.int IntKind.i64 (0), Value.string { data := #[] }] } := by kernel_rfl
theorem ty88 : ty Try.prog 88 = some { desc := TypeDesc.func #[87] #[4] false, size := 1, bytes := 8, zero := Value.nilFunc } := by kernel_rfl
theorem ty89 : ty Try.prog 89 = some { desc := TypeDesc.func #[84] #[4] false, size := 1, bytes := 8, zero := Value.nilFunc } := by kernel_rfl
theorem ty90 : ty Try.prog 90 = some { desc := TypeDesc.func #[82, 3, 3] #[3, 27] false, size := 1, bytes := 8, zero := Value.nilFunc } := by kernel_rfl
theorem ty91 : ty Try.prog 91 = some { desc := TypeDesc.func #[82] #[27] false, size := 1, bytes := 8, zero := Value.nilFunc } := by kernel_rfl
theorem ty92 : ty Try.prog 92 = some { desc := TypeDesc.func #[82, 3, 3] #[4] false, size := 1, bytes := 8, zero := Value.nilFunc } := by kernel_rfl
theorem ty93 : ty Try.prog 93 = some { desc := TypeDesc.func #[9, 9] #[3] false, size := 1, bytes := 8, zero := Value.nilFunc } := by kernel_rfl
theorem ty94 : ty Try.prog 94 = some { desc := TypeDesc.func #[30] #[27] false, size := 1, bytes := 8, zero := Value.nilFunc } := by kernel_rfl
theorem ty95 : ty Try.prog 95 = some { desc := TypeDesc.func #[30] #[3] false, size := 1, bytes := 8, zero := Value.nilFunc } := by kernel_rfl
theorem ty96 : ty Try.prog 96 = some { desc := TypeDesc.func #[122] #[] false, size := 1, bytes := 8, zero := Value.nilFunc } := by kernel_rfl
theorem ty97 : ty Try.prog 97 = some { desc := TypeDesc.func #[122] #[] false, size := 1, bytes := 8, zero := Value.nilFunc } := by kernel_rfl
theorem ty98 : ty Try.prog 98 = some { desc := TypeDesc.func #[30] #[97] false, size := 1, bytes := 8, zero := Value.nilFunc } := by kernel_rfl
theorem ty99 : ty Try.prog 99 = some { desc := TypeDesc.tuple #[3, 3], size := 1, bytes := 0, zero := Value.tuple #[Value.int IntKind.i64 (0), Value.int IntKind.i64 (0)] } := by kernel_rfl
theorem ty100 : ty Try.prog 100 = some { desc := TypeDesc.func #[30, 101] #[3, 3] false, size := 1, bytes := 8, zero := Value.nilFunc } := by kernel_rfl
theorem ty101 : ty Try.prog 101 = some { desc := TypeDesc.func #[9] #[3] false, size := 1, bytes := 8, zero := Value.nilFunc } := by kernel_rfl
theorem ty102 : ty Try.prog 102 = some { desc := TypeDesc.func #[66, 66] #[3] false, size := 1, bytes := 8, zero := Value.nilFunc } := by kernel_rfl
theorem ty103 : ty Try.prog 103 = some { desc := TypeDesc.func #[24, 3] #[27] false, size := 1, bytes := 8, zero := Value.nilFunc } := by kernel_rfl
theorem ty104 : ty Try.prog 104 = some { desc := TypeDesc.map 9 42, size := 1, bytes := 8, zero := Value.map none } := by kernel_rfl
theorem ty105 : ty Try.prog 105 = some { desc := TypeDesc.tuple #[104, 4], size := 1, bytes := 0, zero := Value.tuple #[Value.map none, Value.bool false] } := by kernel_rfl
theorem ty106 : ty Try.prog 106 = some { desc := TypeDesc.func #[24, 42, 3] #[104, 4] false, size := 1, bytes := 8, zero := Value.nilFunc } := by kernel_rfl
theorem ty107 : ty Try.prog 107 = some { desc := TypeDesc.func #[109] #[30] false, size := 1, bytes := 8, zero := Value.nilFunc } := by kernel_rfl
theorem ty108 : ty Try.prog 108 = some { desc := TypeDesc.func #[164] #[] false, size := 1, bytes := 8, zero := Value.nilFunc } := by kernel_rfl
theorem ty109 : ty Try.prog 109 = some { desc := TypeDesc.func #[164] #[] false, size := 1, bytes := 8, zero := Value.nilFunc } := by kernel_rfl
theorem ty110 : ty Try.prog 110 = some { desc := TypeDesc.func #[104] #[109] false, size := 1, bytes := 8, zero := Value.nilFunc } := by kernel_rfl
theorem ty111 : ty Try.prog 111 = some { desc := TypeDesc.func #[9, 9] #[4] false, size := 1, bytes := 8, zero := Value.nilFunc } := by kernel_rfl
theorem ty112 : ty Try.prog 112 = some { desc := TypeDesc.func #[30, 9] #[3] false, size := 1, bytes := 8, zero := Value.nilFunc } := by kernel_rfl
theorem ty113 : ty Try.prog 113 = some { desc := TypeDesc.func #[] #[24] false, size := 1, bytes := 8, zero := Value.nilFunc } := by kernel_rfl
theorem ty114 : ty Try.prog 114 = some { desc := TypeDesc.tuple #[9, 4, 27], size := 1, bytes := 0, zero := Value.tuple { toList := [Value.string { data := #[] }, Value.bool false, Value.int IntKind.i64 (0)] } } := by kernel_rfl
theorem ty115 : ty Try.prog 115 = some { desc := TypeDesc.func #[24, 3] #[9, 4, 27] false, size := 1, bytes := 8, zero := Value.nilFunc } := by kernel_rfl
theorem ty116 : ty Try.prog 116 = some { desc := TypeDesc.func #[104, 118] #[] false, size := 1, bytes := 8, zero := Value.nilFunc } := by kernel_rfl
theorem ty117 : ty Try.prog 117 = some { desc := TypeDesc.func #[42, 3] #[4] false, size := 1, bytes := 8, zero := Value.nilFunc } := by kernel_rfl
theorem ty118 : ty Try.prog 118 = some { desc := TypeDesc.func #[9, 42] #[4] false, size := 1, bytes := 8, zero := Value.nilFunc } := by kernel_rfl
theorem ty119 : ty Try.prog 119 = some { desc := TypeDesc.func #[30, 3, 3, 3] #[] false, size := 1, bytes := 8, zero := Value.nilFunc } := by kernel_rfl
theorem ty120 : ty Try.prog 120 = some { desc := TypeDesc.func #[121] #[3] false, size := 1, bytes := 8, zero := Value.nilFunc } := by kernel_rfl
theorem ty121 : ty Try.prog 121 = some { desc := TypeDesc.int IntKind.u64, size := 1, bytes := 8, zero := Value.int IntKind.u64 (0) } := by kernel_rfl
theorem ty122 : ty Try.prog 122 = some { desc := TypeDesc.func #[3] #[4] false, size := 1, bytes := 8, zero := Value.nilFunc } := by kernel_rfl
theorem ty123 : ty Try.prog 123 = some { desc := TypeDesc.func #[24, 9] #[27] false, size := 1, bytes := 8, zero := Value.nilFunc } := by kernel_rfl
theorem ty124 : ty Try.prog 124 = some { desc := TypeDesc.func #[24, 42, 9] #[42] false, size := 1, bytes := 8, zero := Value.nilFunc } := by kernel_rfl
theorem ty125 : ty Try.prog 125 = some { desc := TypeDesc.func #[42] #[42] false, size := 1, bytes := 8, zero := Value.nilFunc } := by kernel_rfl
theorem ty126 : ty Try.prog 126 = some { desc := TypeDesc.slice 127, size := 1, bytes := 24, zero := Value.slice none 0 0 } := by kernel_rfl
theorem ty127 : ty Try.prog 127 = some { desc := TypeDesc.slice 4, size := 1, bytes := 24, zero := Value.slice none 0 0 } := by kernel_rfl
theorem ty128 : ty Try.prog 128 = some { desc := TypeDesc.func #[127, 3] #[127] false, size := 1, bytes := 8, zero := Value.nilFunc } := by kernel_rfl
theorem ty129 : ty Try.prog 129 = some { desc := TypeDesc.func #[127, 4] #[4] false, size := 1, bytes := 8, zero := Value.nilFunc } := by kernel_rfl
theorem ty130 : ty Try.prog 130 = some { desc := TypeDesc.pointer 133, size := 1, bytes := 8, zero := Value.pointer none } := by kernel_rfl
theorem ty131 : ty Try.prog 131 = some { desc := TypeDesc.slice 5, size := 1, bytes := 24, zero := Value.slice none 0 0 } := by kernel_rfl
theorem ty132 : ty Try.prog 132 = some { desc := TypeDesc.struct { toList := [{ name := "addr", type := 130, offset := 0, embedded := false, tag := "", pkgPath := "strings", byteOffset := 0 }, { name := "buf", type := 131, offset := 1, embedded := false, tag := "", pkgPath := "strings", byteOffset := 8 }] }, size := 2, bytes := 32, zero := Value.agg #[Value.pointer none, Value.slice none 0 0] } := by kernel_rfl
theorem ty133 : ty Try.prog 133 = some { desc := TypeDesc.struct { toList := [{ name := "addr", type := 130, offset := 0, embedded := false, tag := "", pkgPath := "strings", byteOffset := 0 }, { name := "buf", type := 131, offset := 1, embedded := false, tag := "", pkgPath := "strings", byteOffset := 8 }] }, size := 2, bytes := 32, zero := Value.agg #[Value.pointer none, Value.slice none 0 0] } := by kernel_rfl
theorem ty134 : ty Try.prog 134 = some { desc := TypeDesc.func #[24, 42, 138] #[] false, size := 1, bytes := 8, zero := Value.nilFunc } := by kernel_rfl
theorem ty135 : ty Try.prog 135 = some { desc := TypeDesc.interface #[("Error", 139)], size := 1, bytes := 16, zero := Value.nilIface } := by kernel_rfl
theorem ty136 : ty Try.prog 136 = some { desc := TypeDesc.interface #[("Error", 139)], size := 1, bytes := 16, zero := Value.nilIface } := by kernel_rfl
theorem ty137 : ty Try.prog 137 = some { desc := TypeDesc.func #[5] #[136] false, size := 1, bytes := 8, zero := Value.nilFunc } := by kernel_rfl
theorem ty138 : ty Try.prog 138 = some { desc := TypeDesc.func #[5] #[] false, size := 1, bytes := 8, zero := Value.nilFunc } := by kernel_rfl
theorem ty139 : ty Try.prog 139 = some { desc := TypeDesc.func #[] #[9] false, size := 1, bytes := 8, zero := Value.nilFunc } := by kernel_rfl
theorem ty140 : ty Try.prog 140 = some { desc := TypeDesc.func #[3, 3] #[27] false, size := 1, bytes := 8, zero := Value.nilFunc } := by kernel_rfl
theorem ty141 : ty Try.prog 141 = some { desc := TypeDesc.func #[30] #[27] true, size := 1, bytes := 8, zero := Value.nilFunc } := by kernel_rfl
theorem ty142 : ty Try.prog 142 = some { desc := TypeDesc.func #[3, 3] #[3] false, size := 1, bytes := 8, zero := Value.nilFunc } := by kernel_rfl
theorem ty143 : ty Try.prog 143 = some { desc := TypeDesc.func #[9, 9] #[142] false, size := 1, bytes := 8, zero := Value.nilFunc } := by kernel_rfl
theorem ty144 : ty Try.prog 144 = some { desc := TypeDesc.slice 74, size := 1, bytes := 24, zero := Value.slice none 0 0 } := by kernel_rfl
theorem ty145 : ty Try.prog 145 = some { desc := TypeDesc.func #[74, 74] #[74] false, size := 1, bytes := 8, zero := Value.nilFunc } := by kernel_rfl
theorem ty146 : ty Try.prog 146 = some { desc := TypeDesc.func #[3] #[] false, size := 1, bytes := 8, zero := Value.nilFunc } := by kernel_rfl
theorem ty147 : ty Try.prog 147 = some { desc := TypeDesc.int IntKind.u64, size := 1, bytes := 8, zero := Value.int IntKind.u64 (0) } := by kernel_rfl
theorem ty148 : ty Try.prog 148 = some { desc := TypeDesc.func #[4, 151] #[74] false, size := 1, bytes := 8, zero := Value.nilFunc } := by kernel_rfl
theorem ty149 : ty Try.prog 149 = some { desc := TypeDesc.int IntKind.u32, size := 1, bytes := 4, zero := Value.int IntKind.u32 (0) } := by kernel_rfl
theorem ty150 : ty Try.prog 150 = some { desc := TypeDesc.slice 149, size := 1, bytes := 24, zero := Value.slice none 0 0 } := by kernel_rfl
theorem ty151 : ty Try.prog 151 = some { desc := TypeDesc.slice 149, size := 1, bytes := 24, zero := Value.slice none 0 0 } := by kernel_rfl
theorem ty152 : ty Try.prog 152 = some { desc := TypeDesc.map 9 4, size := 1, bytes := 8, zero := Value.map none } := by kernel_rfl
theorem ty153 : ty Try.prog 153 = some { desc := TypeDesc.func #[9, 152] #[] false, size := 1, bytes := 8, zero := Value.nilFunc } := by kernel_rfl
theorem ty154 : ty Try.prog 154 = some { desc := TypeDesc.func #[152] #[109] false, size := 1, bytes := 8, zero := Value.nilFunc } := by kernel_rfl
theorem ty155 : ty Try.prog 155 = some { desc := TypeDesc.func #[80, 89] #[3] false, size := 1, bytes := 8, zero := Value.nilFunc } := by kernel_rfl
theorem ty156 : ty Try.prog 156 = some { desc := TypeDesc.func #[84, 88] #[3] false, size := 1, bytes := 8, zero := Value.nilFunc } := by kernel_rfl
theorem ty157 : ty Try.prog 157 = some { desc := TypeDesc.slice 30, size := 1, bytes := 24, zero := Value.slice none 0 0 } := by kernel_rfl
theorem ty158 : ty Try.prog 158 = some { desc := TypeDesc.func #[3, 3, 3, 9] #[] false, size := 1, bytes := 8, zero := Value.nilFunc } := by kernel_rfl
theorem ty159 : ty Try.prog 159 = some { desc := TypeDesc.slice 42, size := 1, bytes := 24, zero := Value.slice none 0 0 } := by kernel_rfl
theorem ty160 : ty Try.prog 160 = some { desc := TypeDesc.func #[3, 3] #[159] false, size := 1, bytes := 8, zero := Value.nilFunc } := by kernel_rfl
theorem ty161 : ty Try.prog 161 = some { desc := TypeDesc.tuple #[9, 3, 27], size := 1, bytes := 0, zero := Value.tuple { toList := [Value.string { data := #[] }, Value.int IntKind.i64 (0), Value.int IntKind.i64 (0)] } } := by kernel_rfl
theorem ty162 : ty Try.prog 162 = some { desc := TypeDesc.func #[82, 3, 42] #[9, 3, 27] false, size := 1, bytes := 8, zero := Value.nilFunc } := by kernel_rfl
theorem ty163 : ty Try.prog 163 = some { desc := TypeDesc.func #[24, 42, 5] #[42] false, size := 1, bytes := 8, zero := Value.nilFunc } := by kernel_rfl
theorem ty164 : ty Try.prog 164 = some { desc := TypeDesc.func #[9] #[4] false, size := 1, bytes := 8, zero := Value.nilFunc } := by kernel_rfl
theorem ty165 : ty Try.prog 165 = some { desc := TypeDesc.func #[166] #[102] false, size := 1, bytes := 8, zero := Value.nilFunc } := by kernel_rfl
theorem ty166 : ty Try.prog 166 = some { desc := TypeDesc.func #[66] #[42] false, size := 1, bytes := 8, zero := Value.nilFunc } := by kernel_rfl
theorem ty167 : ty Try.prog 167 = some { desc := TypeDesc.func #[42, 3] #[3] false, size := 1, bytes := 8, zero := Value.nilFunc } := by kernel_rfl
theorem ty168 : ty Try.prog 168 = some { desc := TypeDesc.func #[30, 3, 3] #[] false, size := 1, bytes := 8, zero := Value.nilFunc } := by kernel_rfl
theorem ty169 : ty Try.prog 169 = some { desc := TypeDesc.int IntKind.i64, size := 1, bytes := 8, zero := Value.int IntKind.i64 (0) } := by kernel_rfl
theorem ty170 : ty Try.prog 170 = some { desc := TypeDesc.tuple #[3, 169], size := 1, bytes := 0, zero := Value.tuple #[Value.int IntKind.i64 (0), Value.int IntKind.i64 (0)] } := by kernel_rfl
theorem ty171 : ty Try.prog 171 = some { desc := TypeDesc.func #[30, 3, 3] #[3, 169] false, size := 1, bytes := 8, zero := Value.nilFunc } := by kernel_rfl
theorem ty172 : ty Try.prog 172 = some { desc := TypeDesc.func #[30, 3, 3] #[4] false, size := 1, bytes := 8, zero := Value.nilFunc } := by kernel_rfl
theorem ty173 : ty Try.prog 173 = some { desc := TypeDesc.func #[30, 3, 3, 3] #[3] false, size := 1, bytes := 8, zero := Value.nilFunc } := by kernel_rfl
theorem ty174 : ty Try.prog 174 = some { desc := TypeDesc.tuple #[3, 4], size := 1, bytes := 0, zero := Value.tuple #[Value.int IntKind.i64 (0), Value.bool false] } := by kernel_rfl
theorem ty175 : ty Try.prog 175 = some { desc := TypeDesc.func #[30, 3, 3, 3] #[3, 4] false, size := 1, bytes := 8, zero := Value.nilFunc } := by kernel_rfl
theorem ty176 : ty Try.prog 176 = some { desc := TypeDesc.func #[149] #[3] false, size := 1, bytes := 8, zero := Value.nilFunc } := by kernel_rfl
theorem ty177 : ty Try.prog 177 = some { desc := TypeDesc.func #[147] #[3] false, size := 1, bytes := 8, zero := Value.nilFunc } := by kernel_rfl
theorem ty178 : ty Try.prog 178 = some { desc := TypeDesc.tuple #[121, 121], size := 1, bytes := 0, zero := Value.tuple #[Value.int IntKind.u64 (0), Value.int IntKind.u64 (0)] } := by kernel_rfl
theorem ty179 : ty Try.prog 179 = some { desc := TypeDesc.func #[121, 121] #[121, 121] false, size := 1, bytes := 8, zero := Value.nilFunc } := by kernel_rfl
theorem ty180 : ty Try.prog 180 = some { desc := TypeDesc.func #[127, 4] #[3] false, size := 1, bytes := 8, zero := Value.nilFunc } := by kernel_rfl
theorem ty181 : ty Try.prog 181 = some { desc := TypeDesc.pointer 5, size := 1, bytes := 8, zero := Value.pointer none } := by kernel_rfl
theorem ty182 : ty Try.prog 182 = some { desc := TypeDesc.func #[9, 3] #[9] false, size := 1, bytes := 8, zero := Value.nilFunc } := by kernel_rfl
theorem ty183 : ty Try.prog 183 = some { desc := TypeDesc.pointer 3, size := 1, bytes := 8, zero := Value.pointer none } := by kernel_rfl
theorem ty184 : ty Try.prog 184 = some { desc := TypeDesc.func #[74] #[151] false, size := 1, bytes := 8, zero := Value.nilFunc } := by kernel_rfl
theorem ty185 : ty Try.prog 185 = some { desc := TypeDesc.func #[151, 151] #[151] false, size := 1, bytes := 8, zero := Value.nilFunc } := by kernel_rfl
theorem ty186 : ty Try.prog 186 = some { desc := TypeDesc.func #[151, 151] #[3] false, size := 1, bytes := 8, zero := Value.nilFunc } := by kernel_rfl
theorem ty187 : ty Try.prog 187 = some { desc := TypeDesc.func #[151] #[151] false, size := 1, bytes := 8, zero := Value.nilFunc } := by kernel_rfl
theorem ty188 : ty Try.prog 188 = some { desc := TypeDesc.func #[5] #[3] false, size := 1, bytes := 8, zero := Value.nilFunc } := by kernel_rfl
theorem ty189 : ty Try.prog 189 = some { desc := TypeDesc.slice 211, size := 1, bytes := 24, zero := Value.slice none 0 0 } := by kernel_rfl
theorem ty190 : ty Try.prog 190 = some { desc := TypeDesc.tuple #[189, 27], size := 1, bytes := 0, zero := Value.tuple #[Value.slice none 0 0, Value.int IntKind.i64 (0)] } := by kernel_rfl
theorem ty191 : ty Try.prog 191 = some { desc := TypeDesc.func #[24, 42, 3] #[189, 27] false, size := 1, bytes := 8, zero := Value.nilFunc } := by kernel_rfl
theorem ty192 : ty Try.prog 192 = some { desc := TypeDesc.func #[189] #[30] false, size := 1, bytes := 8, zero := Value.nilFunc } := by kernel_rfl
theorem ty193 : ty Try.prog 193 = some { desc := TypeDesc.func #[24, 42, 3] #[42, 27] false, size := 1, bytes := 8, zero := Value.nilFunc } := by kernel_rfl
theorem ty194 : ty Try.prog 194 = some { desc := TypeDesc.func #[30, 109] #[30] false, size := 1, bytes := 8, zero := Value.nilFunc } := by kernel_rfl
theorem ty195 : ty Try.prog 195 = some { desc := TypeDesc.func #[42, 42] #[3] false, size := 1, bytes := 8, zero := Value.nilFunc } := by kernel_rfl
theorem ty196 : ty Try.prog 196 = some { desc := TypeDesc.int IntKind.u64, size := 1, bytes := 8, zero := Value.int IntKind.u64 (0) } := by kernel_rfl
theorem ty197 : ty Try.prog 197 = some { desc := TypeDesc.func #[3] #[121] false, size := 1, bytes := 8, zero := Value.nilFunc } := by kernel_rfl
theorem ty198 : ty Try.prog 198 = some { desc := TypeDesc.func #[] #[147] false, size := 1, bytes := 8, zero := Value.nilFunc } := by kernel_rfl
theorem ty199 : ty Try.prog 199 = some { desc := TypeDesc.func #[30, 3, 183] #[3] false, size := 1, bytes := 8, zero := Value.nilFunc } := by kernel_rfl
theorem ty200 : ty Try.prog 200 = some { desc := TypeDesc.func #[30, 3, 3, 3, 183] #[3] false, size := 1, bytes := 8, zero := Value.nilFunc } := by kernel_rfl
theorem ty201 : ty Try.prog 201 = some { desc := TypeDesc.tuple #[149, 149], size := 1, bytes := 0, zero := Value.tuple #[Value.int IntKind.u32 (0), Value.int IntKind.u32 (0)] } := by kernel_rfl
theorem ty202 : ty Try.prog 202 = some { desc := TypeDesc.func #[149, 149] #[149, 149] false, size := 1, bytes := 8, zero := Value.nilFunc } := by kernel_rfl
theorem ty203 : ty Try.prog 203 = some { desc := TypeDesc.tuple #[147, 147], size := 1, bytes := 0, zero := Value.tuple #[Value.int IntKind.u64 (0), Value.int IntKind.u64 (0)] } := by kernel_rfl
theorem ty204 : ty Try.prog 204 = some { desc := TypeDesc.func #[147, 147] #[147, 147] false, size := 1, bytes := 8, zero := Value.nilFunc } := by kernel_rfl
theorem ty206 : ty Try.prog 206 = some { desc := TypeDesc.func #[205] #[205] false, size := 1, bytes := 8, zero := Value.nilFunc } := by kernel_rfl
theorem ty207 : ty Try.prog 207 = some { desc := TypeDesc.tuple #[3, 136], size := 1, bytes := 0, zero := Value.tuple #[Value.int IntKind.i64 (0), Value.nilIface] } := by kernel_rfl
theorem ty208 : ty Try.prog 208 = some { desc := TypeDesc.func #[9] #[3, 136] false, size := 1, bytes := 8, zero := Value.nilFunc } := by kernel_rfl
theorem ty209 : ty Try.prog 209 = some { desc := TypeDesc.func #[] #[3] false, size := 1, bytes := 8, zero := Value.nilFunc } := by kernel_rfl
theorem ty210 : ty Try.prog 210 = some { desc := TypeDesc.struct { toList := [{ name := "Word", type := 9, offset := 0, embedded := false, tag := "", pkgPath := "", byteOffset := 0 }, { name := "Ends", type := 42, offset := 1, embedded := false, tag := "", pkgPath := "", byteOffset := 16 }] }, size := 2, bytes := 40, zero := Value.agg #[Value.string { data := #[] }, Value.slice none 0 0] } := by kernel_rfl
theorem ty211 : ty Try.prog 211 = some { desc := TypeDesc.struct { toList := [{ name := "Word", type := 9, offset := 0, embedded := false, tag := "", pkgPath := "", byteOffset := 0 }, { name := "Ends", type := 42, offset := 1, embedded := false, tag := "", pkgPath := "", byteOffset := 16 }] }, size := 2, bytes := 40, zero := Value.agg #[Value.string { data := #[] }, Value.slice none 0 0] } := by kernel_rfl
theorem ty212 : ty Try.prog 212 = some { desc := TypeDesc.func #[24, 189] #[189] false, size := 1, bytes := 8, zero := Value.nilFunc } := by kernel_rfl
theorem ty213 : ty Try.prog 213 = some { desc := TypeDesc.func #[24, 42] #[27] false, size := 1, bytes := 8, zero := Value.nilFunc } := by kernel_rfl
theorem ty214 : ty Try.prog 214 = some { desc := TypeDesc.func #[221] #[] false, size := 1, bytes := 8, zero := Value.nilFunc } := by kernel_rfl
theorem ty215 : ty Try.prog 215 = some { desc := TypeDesc.func #[221] #[] false, size := 1, bytes := 8, zero := Value.nilFunc } := by kernel_rfl
theorem ty216 : ty Try.prog 216 = some { desc := TypeDesc.func #[24, 3] #[215] false, size := 1, bytes := 8, zero := Value.nilFunc } := by kernel_rfl
theorem ty217 : ty Try.prog 217 = some { desc := TypeDesc.func #[42] #[] false, size := 1, bytes := 8, zero := Value.nilFunc } := by kernel_rfl
theorem ty218 : ty Try.prog 218 = some { desc := TypeDesc.pointer 196, size := 1, bytes := 8, zero := Value.pointer none } := by kernel_rfl
theorem ty219 : ty Try.prog 219 = some { desc := TypeDesc.func #[30, 3, 3, 183] #[3, 3] false, size := 1, bytes := 8, zero := Value.nilFunc } := by kernel_rfl
theorem ty220 : ty Try.prog 220 = some { desc := TypeDesc.func #[24, 42, 3] #[42] false, size := 1, bytes := 8, zero := Value.nilFunc } := by kernel_rfl
theorem ty221 : ty Try.prog 221 = some { desc := TypeDesc.func #[3, 66] #[4] false, size := 1, bytes := 8, zero := Value.nilFunc } := by kernel_rfl
theorem ty222 : ty Try.prog 222 = some { desc := TypeDesc.func #[42, 3, 3, 3] #[] false, size := 1, bytes := 8, zero := Value.nilFunc } := by kernel_rfl
theorem ty223 : ty Try.prog 223 = some { desc := TypeDesc.func #[3] #[131] false, size := 1, bytes := 8, zero := Value.nilFunc } := by kernel_rfl
theorem ty224 : ty Try.prog 224 = some { desc := TypeDesc.func #[42, 3, 3] #[] false, size := 1, bytes := 8, zero := Value.nilFunc } := by kernel_rfl
theorem ty225 : ty Try.prog 225 = some { desc := TypeDesc.func #[42, 3, 3] #[3, 169] false, size := 1, bytes := 8, zero := Value.nilFunc } := by kernel_rfl
theorem ty226 : ty Try.prog 226 = some { desc := TypeDesc.func #[42, 3, 3] #[4] false, size := 1, bytes := 8, zero := Value.nilFunc } := by kernel_rfl
theorem ty227 : ty Try.prog 227 = some { desc := TypeDesc.func #[3, 3] #[4] false, size := 1, bytes := 8, zero := Value.nilFunc } := by kernel_rfl
theorem ty228 : ty Try.prog 228 = some { desc := TypeDesc.func #[42, 3, 3, 3] #[3] false, size := 1, bytes := 8, zero := Value.nilFunc } := by kernel_rfl
theorem ty229 : ty Try.prog 229 = some { desc := TypeDesc.func #[42, 3, 3, 3] #[3, 4] false, size := 1, bytes := 8, zero := Value.nilFunc } := by kernel_rfl
theorem ty230 : ty Try.prog 230 = some { desc := TypeDesc.func #[42, 3, 183] #[3] false, size := 1, bytes := 8, zero := Value.nilFunc } := by kernel_rfl
theorem ty231 : ty Try.prog 231 = some { desc := TypeDesc.func #[42, 3, 3, 3, 183] #[3] false, size := 1, bytes := 8, zero := Value.nilFunc } := by kernel_rfl
theorem ty232 : ty Try.prog 232 = some { desc := TypeDesc.func #[42, 3, 3, 183] #[3, 3] false, size := 1, bytes := 8, zero := Value.nilFunc } := by kernel_rfl
theorem ty233 : ty Try.prog 233 = some { desc := TypeDesc.struct { toList := [{ name := "_interface", type := 17, offset := 0, embedded := false, tag := "", pkgPath := "runtime", byteOffset := 0 }, { name := "concrete", type := 17, offset := 1, embedded := false, tag := "", pkgPath := "runtime", byteOffset := 8 }, { name := "asserted", type := 17, offset := 2, embedded := false, tag := "", pkgPath := "runtime", byteOffset := 16 }, { name := "missingMethod", type := 9, offset := 3, embedded := false, tag := "", pkgPath := "runtime", byteOffset := 24 }] }, size := 4, bytes := 40, zero := Value.agg { toList := [Value.pointer none, Value.pointer none, Value.pointer none, Value.string { data := #[] }] } } := by kernel_rfl
theorem ty234 : ty Try.prog 234 = some { desc := TypeDesc.struct { toList := [{ name := "_interface", type := 17, offset := 0, embedded := false, tag := "", pkgPath := "runtime", byteOffset := 0 }, { name := "concrete", type := 17, offset := 1, embedded := false, tag := "", pkgPath := "runtime", byteOffset := 8 }, { name := "asserted", type := 17, offset := 2, embedded := false, tag := "", pkgPath := "runtime", byteOffset := 16 }, { name := "missingMethod", type := 9, offset := 3, embedded := false, tag := "", pkgPath := "runtime", byteOffset := 24 }] }, size := 4, bytes := 40, zero := Value.agg { toList := [Value.pointer none, Value.pointer none, Value.pointer none, Value.string { data := #[] }] } } := by kernel_rfl
theorem ty235 : ty Try.prog 235 = some { desc := TypeDesc.array 0 16, size := 0, bytes := 0, zero := Value.agg #[] } := by kernel_rfl
theorem ty236 : ty Try.prog 236 = some { desc := TypeDesc.struct { toList := [{ name := "_", type := 235, offset := 0, embedded := false, tag := "", pkgPath := "runtime", byteOffset := 0 }] }, size := 0, bytes := 0, zero := Value.agg #[] } := by kernel_rfl
theorem ty237 : ty Try.prog 237 = some { desc := TypeDesc.struct { toList := [{ name := "_", type := 235, offset := 0, embedded := false, tag := "", pkgPath := "runtime", byteOffset := 0 }] }, size := 0, bytes := 0, zero := Value.agg #[] } := by kernel_rfl
theorem ty238 : ty Try.prog 238 = some { desc := TypeDesc.int IntKind.u8, size := 1, bytes := 1, zero := Value.int IntKind.u8 (0) } := by kernel_rfl
theorem ty239 : ty Try.prog 239 = some { desc := TypeDesc.int IntKind.u8, size := 1, bytes := 1, zero := Value.int IntKind.u8 (0) } := by kernel_rfl
theorem ty240 : ty Try.prog 240 = some { desc := TypeDesc.func #[205, 205] #[4] false, size := 1, bytes := 8, zero := Value.nilFunc } := by kernel_rfl
theorem ty241 : ty Try.prog 241 = some { desc := TypeDesc.int IntKind.i32, size := 1, bytes := 4, zero := Value.int IntKind.i32 (0) } := by kernel_rfl
theorem ty242 : ty Try.prog 242 = some { desc := TypeDesc.int IntKind.i32, size := 1, bytes := 4, zero := Value.int IntKind.i32 (0) } := by kernel_rfl
theorem ty243 : ty Try.prog 243 = some { desc := TypeDesc.struct { toList := [{ name := "Size_", type := 12, offset := 0, embedded := false, tag := "", pkgPath := "", byteOffset := 0 }, { name := "PtrBytes", type := 12, offset := 1, embedded := false, tag := "", pkgPath := "", byteOffset := 8 }, { name := "Hash", type := 149, offset := 2, embedded := false, tag := "", pkgPath := "", byteOffset := 16 }, { name := "TFlag", type := 238, offset := 3, embedded := false, tag := "", pkgPath := "", byteOffset := 20 }, { name := "Align_", type := 5, offset := 4, embedded := false, tag := "", pkgPath := "", byteOffset := 21 }, { name := "FieldAlign_", type := 5, offset := 5, embedded := false, tag := "", pkgPath := "", byteOffset := 22 }, { name := "Kind_", type := 239, offset := 6, embedded := false, tag := "", pkgPath := "", byteOffset := 23 }, { name := "Equal", type := 240, offset := 7, embedded := false, tag := "", pkgPath := "", byteOffset := 24 }, { name := "GCData", type := 181, offset := 8, embedded := false, tag := "", pkgPath := "", byteOffset := 32 }, { name := "Str", type := 241, offset := 9, embedded := false, tag := "", pkgPath := "", byteOffset := 40 }, { name := "PtrToThis", type := 242, offset := 10, embedded := false, tag := "", pkgPath := "", byteOffset := 44 }] }, size := 11, bytes := 48, zero := Value.agg { toList := [Value.int IntKind.u64 (0), Value.int IntKind.u64 (0), Value.int IntKind.u32 (0), Value.int IntKind.u8 (0), Value.int IntKind.u8 (0), Value.int IntKind.u8 (0), Value.int IntKind.u8 (0), Value.nilFunc, Value.pointer none, Value.int IntKind.i32 (0), Value.int IntKind.i32 (0)] } } := by kernel_rfl
theorem ty244 : ty Try.prog 244 = some { desc := TypeDesc.struct { toList := [{ name := "Size_", type := 12, offset := 0, embedded := false, tag := "", pkgPath := "", byteOffset := 0 }, { name := "PtrBytes", type := 12, offset := 1, embedded := false, tag := "", pkgPath := "", byteOffset := 8 }, { name := "Hash", type := 149, offset := 2, embedded := false, tag := "", pkgPath := "", byteOffset := 16 }, { name := "TFlag", type := 238, offset := 3, embedded := false, tag := "", pkgPath := "", byteOffset := 20 }, { name := "Align_", type := 5, offset := 4, embedded := false, tag := "", pkgPath := "", byteOffset := 21 }, { name := "FieldAlign_", type := 5, offset := 5, embedded := false, tag := "", pkgPath := "", byteOffset := 22 }, { name := "Kind_", type := 239, offset := 6, embedded := false, tag := "", pkgPath := "", byteOffset := 23 }, { name := "Equal", type := 240, offset := 7, embedded := false, tag := "", pkgPath := "", byteOffset := 24 }, { name := "GCData", type := 181, offset := 8, embedded := false, tag := "", pkgPath := "", byteOffset := 32 }, { name := "Str", type := 241, offset := 9, embedded := false, tag := "", pkgPath := "", byteOffset := 40 }, { name := "PtrToThis", type := 242, offset := 10, embedded := false, tag := "", pkgPath := "", byteOffset := 44 }] }, size := 11, bytes := 48, zero := Value.agg { toList := [Value.int IntKind.u64 (0), Value.int IntKind.u64 (0), Value.int IntKind.u32 (0), Value.int IntKind.u8 (0), Value.int IntKind.u8 (0), Value.int IntKind.u8 (0), Value.int IntKind.u8 (0), Value.nilFunc, Value.pointer none, Value.int IntKind.i32 (0), Value.int IntKind.i32 (0)] } } := by kernel_rfl
attribute [go_sem] ty0 ty1 ty2 ty3 ty4 ty5 ty6 ty7 ty8 ty9 ty10 ty11 ty12 ty13 ty14 ty15 ty16 ty17 ty18 ty19 ty20 ty21 ty22 ty23 ty24 ty25 ty26 ty27 ty28 ty29 ty30 ty31 ty32 ty33 ty34 ty35 ty36 ty37 ty38 ty39 ty40 ty41 ty42 ty43 ty44 ty45 ty46 ty47 ty48 ty49 ty50 ty51 ty52 ty53 ty54 ty55 ty56 ty57 ty58 ty59 ty60 ty61 ty62 ty63 ty64 ty65 ty66 ty67 ty68 ty69 ty70 ty71 ty72 ty73 ty74 ty75 ty76 ty77 ty78 ty79 ty80 ty81 ty82 ty83 ty84 ty85 ty86 ty87 ty88 ty89 ty90 ty91 ty92 ty93 ty94 ty95 ty96 ty97 ty98 ty99 ty100 ty101 ty102 ty103 ty104 ty105 ty106 ty107 ty108 ty109 ty110 ty111 ty112 ty113 ty114 ty115 ty116 ty117 ty118 ty119 ty120 ty121 ty122 ty123 ty124 ty125 ty126 ty127 ty128 ty129 ty130 ty131 ty132 ty133 ty134 ty135 ty136 ty137 ty138 ty139 ty140 ty141 ty142 ty143 ty144 ty145 ty146 ty147 ty148 ty149 ty150 ty151 ty152 ty153 ty154 ty155 ty156 ty157 ty158 ty159 ty160 ty161 ty162 ty163 ty164 ty165 ty166 ty167 ty168 ty169 ty170 ty171 ty172 ty173 ty174 ty175 ty176 ty177 ty178 ty179 ty180 ty181 ty182 ty183 ty184 ty185 ty186 ty187 ty188 ty189 ty190 ty191 ty192 ty193 ty194 ty195 ty196 ty197 ty198 ty199 ty200 ty201 ty202 ty203 ty204 ty206 ty207 ty208 ty209 ty210 ty211 ty212 ty213 ty214 ty215 ty216 ty217 ty218 ty219 ty220 ty221 ty222 ty223 ty224 ty225 ty226 ty227 ty228 ty229 ty230 ty231 ty232 ty233 ty234 ty235 ty236 ty237 ty238 ty239 ty240 ty241 ty242 ty243 ty244
theorem follows : Try.prog.follows .mixedOrders = true := by kernel_rfl
end Go.AW
