/- The table of the types that the walks meet, with its proofs. Made by program. No condition. -/
import Derived.Test.YtaaiimlaklpjpaaEngB
import Derived.KernelRfl
import Derived.Test.YtaaiimlaklpjpaaProg
namespace Go.Proofs.Ytaaiimlaklpjpaa
open Go
set_option linter.unusedVariables false
set_option maxRecDepth 100000
def td2 : TD := ⟨Go.TypeDesc.int Go.IntKind.i64, 1, 8, (Go.Value.int Go.IntKind.i64 0)⟩
theorem td2_ok : TDOk Try.prog 2 td2 := ⟨Try.underlying2, by kernel_rfl⟩
def td3 : TD := ⟨Go.TypeDesc.int Go.IntKind.i64, 1, 8, (Go.Value.int Go.IntKind.i64 0)⟩
theorem td3_ok : TDOk Try.prog 3 td3 := ⟨Try.underlying3, by kernel_rfl⟩
def td4 : TD := ⟨Go.TypeDesc.bool, 1, 1, (Go.Value.bool Bool.false)⟩
theorem td4_ok : TDOk Try.prog 4 td4 := ⟨Try.underlying4, by kernel_rfl⟩
def td5 : TD := ⟨Go.TypeDesc.int Go.IntKind.u8, 1, 1, (Go.Value.int Go.IntKind.u8 0)⟩
theorem td5_ok : TDOk Try.prog 5 td5 := ⟨Try.underlying5, by kernel_rfl⟩
def td6 : TD := ⟨Go.TypeDesc.int Go.IntKind.u8, 1, 1, (Go.Value.int Go.IntKind.u8 0)⟩
theorem td6_ok : TDOk Try.prog 6 td6 := ⟨Try.underlying6, by kernel_rfl⟩
def td7 : TD := ⟨Go.TypeDesc.struct #[{ name := "x", type := 2, offset := 0, embedded := Bool.false, tag := "", pkgPath := "runtime", byteOffset := 0 }, { name := "y", type := 3, offset := 1, embedded := Bool.false, tag := "", pkgPath := "runtime", byteOffset := 8 }, { name := "signed", type := 4, offset := 2, embedded := Bool.false, tag := "", pkgPath := "runtime", byteOffset := 16 }, { name := "code", type := 6, offset := 3, embedded := Bool.false, tag := "", pkgPath := "runtime", byteOffset := 17 }], 4, 24, (Go.Value.agg #[Go.Value.int Go.IntKind.i64 0, Go.Value.int Go.IntKind.i64 0, Go.Value.bool Bool.false, Go.Value.int Go.IntKind.u8 0])⟩
theorem td7_ok : TDOk Try.prog 7 td7 := ⟨Try.underlying7, by kernel_rfl⟩
def td8 : TD := ⟨Go.TypeDesc.struct #[{ name := "x", type := 2, offset := 0, embedded := Bool.false, tag := "", pkgPath := "runtime", byteOffset := 0 }, { name := "y", type := 3, offset := 1, embedded := Bool.false, tag := "", pkgPath := "runtime", byteOffset := 8 }, { name := "signed", type := 4, offset := 2, embedded := Bool.false, tag := "", pkgPath := "runtime", byteOffset := 16 }, { name := "code", type := 6, offset := 3, embedded := Bool.false, tag := "", pkgPath := "runtime", byteOffset := 17 }], 4, 24, (Go.Value.agg #[Go.Value.int Go.IntKind.i64 0, Go.Value.int Go.IntKind.i64 0, Go.Value.bool Bool.false, Go.Value.int Go.IntKind.u8 0])⟩
theorem td8_ok : TDOk Try.prog 8 td8 := ⟨Try.underlying8, by kernel_rfl⟩
def td9 : TD := ⟨Go.TypeDesc.string, 1, 16, (Go.Value.string { data := #[] })⟩
theorem td9_ok : TDOk Try.prog 9 td9 := ⟨Try.underlying9, by kernel_rfl⟩
def td10 : TD := ⟨Go.TypeDesc.string, 1, 16, (Go.Value.string { data := #[] })⟩
theorem td10_ok : TDOk Try.prog 10 td10 := ⟨Try.underlying10, by kernel_rfl⟩
def td11 : TD := ⟨Go.TypeDesc.string, 1, 16, (Go.Value.string { data := #[] })⟩
theorem td11_ok : TDOk Try.prog 11 td11 := ⟨Try.underlying11, by kernel_rfl⟩
def td12 : TD := ⟨Go.TypeDesc.int Go.IntKind.u64, 1, 8, (Go.Value.int Go.IntKind.u64 0)⟩
theorem td12_ok : TDOk Try.prog 12 td12 := ⟨Try.underlying12, by kernel_rfl⟩
def td13 : TD := ⟨Go.TypeDesc.struct #[{ name := "msg", type := 9, offset := 0, embedded := Bool.false, tag := "", pkgPath := "runtime", byteOffset := 0 }, { name := "addr", type := 12, offset := 1, embedded := Bool.false, tag := "", pkgPath := "runtime", byteOffset := 16 }], 2, 24, (Go.Value.agg #[Go.Value.string { data := #[] }, Go.Value.int Go.IntKind.u64 0])⟩
theorem td13_ok : TDOk Try.prog 13 td13 := ⟨Try.underlying13, by kernel_rfl⟩
def td14 : TD := ⟨Go.TypeDesc.struct #[{ name := "msg", type := 9, offset := 0, embedded := Bool.false, tag := "", pkgPath := "runtime", byteOffset := 0 }, { name := "addr", type := 12, offset := 1, embedded := Bool.false, tag := "", pkgPath := "runtime", byteOffset := 16 }], 2, 24, (Go.Value.agg #[Go.Value.string { data := #[] }, Go.Value.int Go.IntKind.u64 0])⟩
theorem td14_ok : TDOk Try.prog 14 td14 := ⟨Try.underlying14, by kernel_rfl⟩
def td15 : TD := ⟨Go.TypeDesc.pointer 109, 1, 8, (Go.Value.pointer Option.none)⟩
theorem td15_ok : TDOk Try.prog 15 td15 := ⟨Try.underlying15, by kernel_rfl⟩
def td16 : TD := ⟨Go.TypeDesc.pointer 112, 1, 8, (Go.Value.pointer Option.none)⟩
theorem td16_ok : TDOk Try.prog 16 td16 := ⟨Try.underlying16, by kernel_rfl⟩
def td17 : TD := ⟨Go.TypeDesc.pointer 121, 1, 8, (Go.Value.pointer Option.none)⟩
theorem td17_ok : TDOk Try.prog 17 td17 := ⟨Try.underlying17, by kernel_rfl⟩
def td18 : TD := ⟨Go.TypeDesc.struct #[{ name := "typ", type := 17, offset := 0, embedded := Bool.false, tag := "", pkgPath := "internal/runtime/maps", byteOffset := 0 }], 1, 8, (Go.Value.agg #[Go.Value.pointer Option.none])⟩
theorem td18_ok : TDOk Try.prog 18 td18 := ⟨Try.underlying18, by kernel_rfl⟩
def td19 : TD := ⟨Go.TypeDesc.struct #[{ name := "typ", type := 17, offset := 0, embedded := Bool.false, tag := "", pkgPath := "internal/runtime/maps", byteOffset := 0 }], 1, 8, (Go.Value.agg #[Go.Value.pointer Option.none])⟩
theorem td19_ok : TDOk Try.prog 19 td19 := ⟨Try.underlying19, by kernel_rfl⟩
def td21 : TD := ⟨Go.TypeDesc.int Go.IntKind.i32, 1, 4, (Go.Value.int Go.IntKind.i32 0)⟩
theorem td21_ok : TDOk Try.prog 21 td21 := ⟨Try.underlying21, by kernel_rfl⟩
def td22 : TD := ⟨Go.TypeDesc.slice 34, 1, 24, (Go.Value.slice Option.none 0 0)⟩
theorem td22_ok : TDOk Try.prog 22 td22 := ⟨Try.underlying22, by kernel_rfl⟩
def td23 : TD := ⟨Go.TypeDesc.struct #[{ name := "Format", type := 3, offset := 0, embedded := Bool.false, tag := "", pkgPath := "", byteOffset := 0 }, { name := "Levels", type := 22, offset := 1, embedded := Bool.false, tag := "", pkgPath := "", byteOffset := 8 }, { name := "WrapS", type := 3, offset := 2, embedded := Bool.false, tag := "", pkgPath := "", byteOffset := 32 }, { name := "WrapT", type := 3, offset := 3, embedded := Bool.false, tag := "", pkgPath := "", byteOffset := 40 }, { name := "Min", type := 3, offset := 4, embedded := Bool.false, tag := "", pkgPath := "", byteOffset := 48 }, { name := "Mag", type := 3, offset := 5, embedded := Bool.false, tag := "", pkgPath := "", byteOffset := 56 }], 6, 64, (Go.Value.agg #[Go.Value.int Go.IntKind.i64 0, Go.Value.slice Option.none 0 0, Go.Value.int Go.IntKind.i64 0, Go.Value.int Go.IntKind.i64 0, Go.Value.int Go.IntKind.i64 0, Go.Value.int Go.IntKind.i64 0])⟩
theorem td23_ok : TDOk Try.prog 23 td23 := ⟨Try.underlying23, by kernel_rfl⟩
def td24 : TD := ⟨Go.TypeDesc.struct #[{ name := "Format", type := 3, offset := 0, embedded := Bool.false, tag := "", pkgPath := "", byteOffset := 0 }, { name := "Levels", type := 22, offset := 1, embedded := Bool.false, tag := "", pkgPath := "", byteOffset := 8 }, { name := "WrapS", type := 3, offset := 2, embedded := Bool.false, tag := "", pkgPath := "", byteOffset := 32 }, { name := "WrapT", type := 3, offset := 3, embedded := Bool.false, tag := "", pkgPath := "", byteOffset := 40 }, { name := "Min", type := 3, offset := 4, embedded := Bool.false, tag := "", pkgPath := "", byteOffset := 48 }, { name := "Mag", type := 3, offset := 5, embedded := Bool.false, tag := "", pkgPath := "", byteOffset := 56 }], 6, 64, (Go.Value.agg #[Go.Value.int Go.IntKind.i64 0, Go.Value.slice Option.none 0 0, Go.Value.int Go.IntKind.i64 0, Go.Value.int Go.IntKind.i64 0, Go.Value.int Go.IntKind.i64 0, Go.Value.int Go.IntKind.i64 0])⟩
theorem td24_ok : TDOk Try.prog 24 td24 := ⟨Try.underlying24, by kernel_rfl⟩
def td27 : TD := ⟨Go.TypeDesc.int Go.IntKind.i64, 1, 8, (Go.Value.int Go.IntKind.i64 0)⟩
theorem td27_ok : TDOk Try.prog 27 td27 := ⟨Try.underlying27, by kernel_rfl⟩
def td32 : TD := ⟨Go.TypeDesc.slice 5, 1, 24, (Go.Value.slice Option.none 0 0)⟩
theorem td32_ok : TDOk Try.prog 32 td32 := ⟨Try.underlying32, by kernel_rfl⟩
def td33 : TD := ⟨Go.TypeDesc.struct #[{ name := "W", type := 3, offset := 0, embedded := Bool.false, tag := "", pkgPath := "", byteOffset := 0 }, { name := "H", type := 3, offset := 1, embedded := Bool.false, tag := "", pkgPath := "", byteOffset := 8 }, { name := "Bytes", type := 32, offset := 2, embedded := Bool.false, tag := "", pkgPath := "", byteOffset := 16 }], 3, 40, (Go.Value.agg #[Go.Value.int Go.IntKind.i64 0, Go.Value.int Go.IntKind.i64 0, Go.Value.slice Option.none 0 0])⟩
theorem td33_ok : TDOk Try.prog 33 td33 := ⟨Try.underlying33, by kernel_rfl⟩
def td34 : TD := ⟨Go.TypeDesc.struct #[{ name := "W", type := 3, offset := 0, embedded := Bool.false, tag := "", pkgPath := "", byteOffset := 0 }, { name := "H", type := 3, offset := 1, embedded := Bool.false, tag := "", pkgPath := "", byteOffset := 8 }, { name := "Bytes", type := 32, offset := 2, embedded := Bool.false, tag := "", pkgPath := "", byteOffset := 16 }], 3, 40, (Go.Value.agg #[Go.Value.int Go.IntKind.i64 0, Go.Value.int Go.IntKind.i64 0, Go.Value.slice Option.none 0 0])⟩
theorem td34_ok : TDOk Try.prog 34 td34 := ⟨Try.underlying34, by kernel_rfl⟩
def td35 : TD := ⟨Go.TypeDesc.struct #[{ name := "Level", type := 3, offset := 0, embedded := Bool.false, tag := "", pkgPath := "", byteOffset := 0 }, { name := "Format", type := 3, offset := 1, embedded := Bool.false, tag := "", pkgPath := "", byteOffset := 8 }, { name := "What", type := 34, offset := 2, embedded := Bool.false, tag := "", pkgPath := "", byteOffset := 16 }], 5, 56, (Go.Value.agg #[Go.Value.int Go.IntKind.i64 0, Go.Value.int Go.IntKind.i64 0, Go.Value.int Go.IntKind.i64 0, Go.Value.int Go.IntKind.i64 0, Go.Value.slice Option.none 0 0])⟩
theorem td35_ok : TDOk Try.prog 35 td35 := ⟨Try.underlying35, by kernel_rfl⟩
def td36 : TD := ⟨Go.TypeDesc.struct #[{ name := "Level", type := 3, offset := 0, embedded := Bool.false, tag := "", pkgPath := "", byteOffset := 0 }, { name := "Format", type := 3, offset := 1, embedded := Bool.false, tag := "", pkgPath := "", byteOffset := 8 }, { name := "What", type := 34, offset := 2, embedded := Bool.false, tag := "", pkgPath := "", byteOffset := 16 }], 5, 56, (Go.Value.agg #[Go.Value.int Go.IntKind.i64 0, Go.Value.int Go.IntKind.i64 0, Go.Value.int Go.IntKind.i64 0, Go.Value.int Go.IntKind.i64 0, Go.Value.slice Option.none 0 0])⟩
theorem td36_ok : TDOk Try.prog 36 td36 := ⟨Try.underlying36, by kernel_rfl⟩
def td42 : TD := ⟨Go.TypeDesc.struct #[{ name := "X", type := 3, offset := 0, embedded := Bool.false, tag := "", pkgPath := "", byteOffset := 0 }, { name := "Y", type := 3, offset := 1, embedded := Bool.false, tag := "", pkgPath := "", byteOffset := 8 }, { name := "W", type := 3, offset := 2, embedded := Bool.false, tag := "", pkgPath := "", byteOffset := 16 }, { name := "H", type := 3, offset := 3, embedded := Bool.false, tag := "", pkgPath := "", byteOffset := 24 }], 4, 32, (Go.Value.agg #[Go.Value.int Go.IntKind.i64 0, Go.Value.int Go.IntKind.i64 0, Go.Value.int Go.IntKind.i64 0, Go.Value.int Go.IntKind.i64 0])⟩
theorem td42_ok : TDOk Try.prog 42 td42 := ⟨Try.underlying42, by kernel_rfl⟩
def td43 : TD := ⟨Go.TypeDesc.struct #[{ name := "X", type := 3, offset := 0, embedded := Bool.false, tag := "", pkgPath := "", byteOffset := 0 }, { name := "Y", type := 3, offset := 1, embedded := Bool.false, tag := "", pkgPath := "", byteOffset := 8 }, { name := "W", type := 3, offset := 2, embedded := Bool.false, tag := "", pkgPath := "", byteOffset := 16 }, { name := "H", type := 3, offset := 3, embedded := Bool.false, tag := "", pkgPath := "", byteOffset := 24 }], 4, 32, (Go.Value.agg #[Go.Value.int Go.IntKind.i64 0, Go.Value.int Go.IntKind.i64 0, Go.Value.int Go.IntKind.i64 0, Go.Value.int Go.IntKind.i64 0])⟩
theorem td43_ok : TDOk Try.prog 43 td43 := ⟨Try.underlying43, by kernel_rfl⟩
def td44 : TD := ⟨Go.TypeDesc.struct #[{ name := "Level", type := 3, offset := 0, embedded := Bool.false, tag := "", pkgPath := "", byteOffset := 0 }, { name := "Piece", type := 43, offset := 1, embedded := Bool.false, tag := "", pkgPath := "", byteOffset := 8 }, { name := "Bytes", type := 32, offset := 5, embedded := Bool.false, tag := "", pkgPath := "", byteOffset := 40 }], 6, 64, (Go.Value.agg #[Go.Value.int Go.IntKind.i64 0, Go.Value.int Go.IntKind.i64 0, Go.Value.int Go.IntKind.i64 0, Go.Value.int Go.IntKind.i64 0, Go.Value.int Go.IntKind.i64 0, Go.Value.slice Option.none 0 0])⟩
theorem td44_ok : TDOk Try.prog 44 td44 := ⟨Try.underlying44, by kernel_rfl⟩
def td45 : TD := ⟨Go.TypeDesc.struct #[{ name := "Level", type := 3, offset := 0, embedded := Bool.false, tag := "", pkgPath := "", byteOffset := 0 }, { name := "Piece", type := 43, offset := 1, embedded := Bool.false, tag := "", pkgPath := "", byteOffset := 8 }, { name := "Bytes", type := 32, offset := 5, embedded := Bool.false, tag := "", pkgPath := "", byteOffset := 40 }], 6, 64, (Go.Value.agg #[Go.Value.int Go.IntKind.i64 0, Go.Value.int Go.IntKind.i64 0, Go.Value.int Go.IntKind.i64 0, Go.Value.int Go.IntKind.i64 0, Go.Value.int Go.IntKind.i64 0, Go.Value.slice Option.none 0 0])⟩
theorem td45_ok : TDOk Try.prog 45 td45 := ⟨Try.underlying45, by kernel_rfl⟩
def td50 : TD := ⟨Go.TypeDesc.int Go.IntKind.u64, 1, 8, (Go.Value.int Go.IntKind.u64 0)⟩
theorem td50_ok : TDOk Try.prog 50 td50 := ⟨Try.underlying50, by kernel_rfl⟩
def td51 : TD := ⟨Go.TypeDesc.array 8 3, 8, 64, (Go.Value.agg #[Go.Value.int Go.IntKind.i64 0, Go.Value.int Go.IntKind.i64 0, Go.Value.int Go.IntKind.i64 0, Go.Value.int Go.IntKind.i64 0, Go.Value.int Go.IntKind.i64 0, Go.Value.int Go.IntKind.i64 0, Go.Value.int Go.IntKind.i64 0, Go.Value.int Go.IntKind.i64 0])⟩
theorem td51_ok : TDOk Try.prog 51 td51 := ⟨Try.underlying51, by kernel_rfl⟩
def td57 : TD := ⟨Go.TypeDesc.pointer 34, 1, 8, (Go.Value.pointer Option.none)⟩
theorem td57_ok : TDOk Try.prog 57 td57 := ⟨Try.underlying57, by kernel_rfl⟩
def td63 : TD := ⟨Go.TypeDesc.slice 32, 1, 24, (Go.Value.slice Option.none 0 0)⟩
theorem td63_ok : TDOk Try.prog 63 td63 := ⟨Try.underlying63, by kernel_rfl⟩
def td67 : TD := ⟨Go.TypeDesc.struct #[{ name := "f", type := 3, offset := 0, embedded := Bool.false, tag := "", pkgPath := "paintbox/image", byteOffset := 0 }, { name := "s", type := 3, offset := 1, embedded := Bool.false, tag := "", pkgPath := "paintbox/image", byteOffset := 8 }, { name := "t", type := 3, offset := 2, embedded := Bool.false, tag := "", pkgPath := "paintbox/image", byteOffset := 16 }, { name := "n", type := 3, offset := 3, embedded := Bool.false, tag := "", pkgPath := "paintbox/image", byteOffset := 24 }, { name := "g", type := 3, offset := 4, embedded := Bool.false, tag := "", pkgPath := "paintbox/image", byteOffset := 32 }], 5, 40, (Go.Value.agg #[Go.Value.int Go.IntKind.i64 0, Go.Value.int Go.IntKind.i64 0, Go.Value.int Go.IntKind.i64 0, Go.Value.int Go.IntKind.i64 0, Go.Value.int Go.IntKind.i64 0])⟩
theorem td67_ok : TDOk Try.prog 67 td67 := ⟨Try.underlying67, by kernel_rfl⟩
def td68 : TD := ⟨Go.TypeDesc.struct #[{ name := "f", type := 3, offset := 0, embedded := Bool.false, tag := "", pkgPath := "paintbox/image", byteOffset := 0 }, { name := "s", type := 3, offset := 1, embedded := Bool.false, tag := "", pkgPath := "paintbox/image", byteOffset := 8 }, { name := "t", type := 3, offset := 2, embedded := Bool.false, tag := "", pkgPath := "paintbox/image", byteOffset := 16 }, { name := "n", type := 3, offset := 3, embedded := Bool.false, tag := "", pkgPath := "paintbox/image", byteOffset := 24 }, { name := "g", type := 3, offset := 4, embedded := Bool.false, tag := "", pkgPath := "paintbox/image", byteOffset := 32 }], 5, 40, (Go.Value.agg #[Go.Value.int Go.IntKind.i64 0, Go.Value.int Go.IntKind.i64 0, Go.Value.int Go.IntKind.i64 0, Go.Value.int Go.IntKind.i64 0, Go.Value.int Go.IntKind.i64 0])⟩
theorem td68_ok : TDOk Try.prog 68 td68 := ⟨Try.underlying68, by kernel_rfl⟩
def td83 : TD := ⟨Go.TypeDesc.int Go.IntKind.u32, 1, 4, (Go.Value.int Go.IntKind.u32 0)⟩
theorem td83_ok : TDOk Try.prog 83 td83 := ⟨Try.underlying83, by kernel_rfl⟩
def td85 : TD := ⟨Go.TypeDesc.slice 83, 1, 24, (Go.Value.slice Option.none 0 0)⟩
theorem td85_ok : TDOk Try.prog 85 td85 := ⟨Try.underlying85, by kernel_rfl⟩
def td86 : TD := ⟨Go.TypeDesc.slice 3, 1, 24, (Go.Value.slice Option.none 0 0)⟩
theorem td86_ok : TDOk Try.prog 86 td86 := ⟨Try.underlying86, by kernel_rfl⟩
def td88 : TD := ⟨Go.TypeDesc.slice 106, 1, 24, (Go.Value.slice Option.none 0 0)⟩
theorem td88_ok : TDOk Try.prog 88 td88 := ⟨Try.underlying88, by kernel_rfl⟩
def td89 : TD := ⟨Go.TypeDesc.int Go.IntKind.i32, 1, 4, (Go.Value.int Go.IntKind.i32 0)⟩
theorem td89_ok : TDOk Try.prog 89 td89 := ⟨Try.underlying89, by kernel_rfl⟩
def td90 : TD := ⟨Go.TypeDesc.array 4 89, 4, 16, (Go.Value.agg #[Go.Value.int Go.IntKind.i32 0, Go.Value.int Go.IntKind.i32 0, Go.Value.int Go.IntKind.i32 0, Go.Value.int Go.IntKind.i32 0])⟩
theorem td90_ok : TDOk Try.prog 90 td90 := ⟨Try.underlying90, by kernel_rfl⟩
def td91 : TD := ⟨Go.TypeDesc.array 4 89, 4, 16, (Go.Value.agg #[Go.Value.int Go.IntKind.i32 0, Go.Value.int Go.IntKind.i32 0, Go.Value.int Go.IntKind.i32 0, Go.Value.int Go.IntKind.i32 0])⟩
theorem td91_ok : TDOk Try.prog 91 td91 := ⟨Try.underlying91, by kernel_rfl⟩
def td92 : TD := ⟨Go.TypeDesc.struct #[{ name := "size", type := 3, offset := 0, embedded := Bool.false, tag := "", pkgPath := "paintbox/pixel", byteOffset := 0 }, { name := "channels", type := 88, offset := 1, embedded := Bool.false, tag := "", pkgPath := "paintbox/pixel", byteOffset := 8 }, { name := "rest", type := 91, offset := 2, embedded := Bool.false, tag := "", pkgPath := "paintbox/pixel", byteOffset := 32 }], 6, 48, (Go.Value.agg #[Go.Value.int Go.IntKind.i64 0, Go.Value.slice Option.none 0 0, Go.Value.int Go.IntKind.i32 0, Go.Value.int Go.IntKind.i32 0, Go.Value.int Go.IntKind.i32 0, Go.Value.int Go.IntKind.i32 0])⟩
theorem td92_ok : TDOk Try.prog 92 td92 := ⟨Try.underlying92, by kernel_rfl⟩
def td93 : TD := ⟨Go.TypeDesc.struct #[{ name := "size", type := 3, offset := 0, embedded := Bool.false, tag := "", pkgPath := "paintbox/pixel", byteOffset := 0 }, { name := "channels", type := 88, offset := 1, embedded := Bool.false, tag := "", pkgPath := "paintbox/pixel", byteOffset := 8 }, { name := "rest", type := 91, offset := 2, embedded := Bool.false, tag := "", pkgPath := "paintbox/pixel", byteOffset := 32 }], 6, 48, (Go.Value.agg #[Go.Value.int Go.IntKind.i64 0, Go.Value.slice Option.none 0 0, Go.Value.int Go.IntKind.i32 0, Go.Value.int Go.IntKind.i32 0, Go.Value.int Go.IntKind.i32 0, Go.Value.int Go.IntKind.i32 0])⟩
theorem td93_ok : TDOk Try.prog 93 td93 := ⟨Try.underlying93, by kernel_rfl⟩
def td99 : TD := ⟨Go.TypeDesc.int Go.IntKind.u64, 1, 8, (Go.Value.int Go.IntKind.u64 0)⟩
theorem td99_ok : TDOk Try.prog 99 td99 := ⟨Try.underlying99, by kernel_rfl⟩
def td103 : TD := ⟨Go.TypeDesc.slice 93, 1, 24, (Go.Value.slice Option.none 0 0)⟩
theorem td103_ok : TDOk Try.prog 103 td103 := ⟨Try.underlying103, by kernel_rfl⟩
def td105 : TD := ⟨Go.TypeDesc.struct #[{ name := "at", type := 3, offset := 0, embedded := Bool.false, tag := "", pkgPath := "paintbox/pixel", byteOffset := 0 }, { name := "bits", type := 3, offset := 1, embedded := Bool.false, tag := "", pkgPath := "paintbox/pixel", byteOffset := 8 }, { name := "shift", type := 3, offset := 2, embedded := Bool.false, tag := "", pkgPath := "paintbox/pixel", byteOffset := 16 }], 3, 24, (Go.Value.agg #[Go.Value.int Go.IntKind.i64 0, Go.Value.int Go.IntKind.i64 0, Go.Value.int Go.IntKind.i64 0])⟩
theorem td105_ok : TDOk Try.prog 105 td105 := ⟨Try.underlying105, by kernel_rfl⟩
def td106 : TD := ⟨Go.TypeDesc.struct #[{ name := "at", type := 3, offset := 0, embedded := Bool.false, tag := "", pkgPath := "paintbox/pixel", byteOffset := 0 }, { name := "bits", type := 3, offset := 1, embedded := Bool.false, tag := "", pkgPath := "paintbox/pixel", byteOffset := 8 }, { name := "shift", type := 3, offset := 2, embedded := Bool.false, tag := "", pkgPath := "paintbox/pixel", byteOffset := 16 }], 3, 24, (Go.Value.agg #[Go.Value.int Go.IntKind.i64 0, Go.Value.int Go.IntKind.i64 0, Go.Value.int Go.IntKind.i64 0])⟩
theorem td106_ok : TDOk Try.prog 106 td106 := ⟨Try.underlying106, by kernel_rfl⟩
def td110 : TD := ⟨Go.TypeDesc.array 0 16, 0, 0, (Go.Value.agg #[])⟩
theorem td110_ok : TDOk Try.prog 110 td110 := ⟨Try.underlying110, by kernel_rfl⟩
def td111 : TD := ⟨Go.TypeDesc.struct #[{ name := "_", type := 110, offset := 0, embedded := Bool.false, tag := "", pkgPath := "runtime", byteOffset := 0 }], 0, 0, (Go.Value.agg #[])⟩
theorem td111_ok : TDOk Try.prog 111 td111 := ⟨Try.underlying111, by kernel_rfl⟩
def td112 : TD := ⟨Go.TypeDesc.struct #[{ name := "_", type := 110, offset := 0, embedded := Bool.false, tag := "", pkgPath := "runtime", byteOffset := 0 }], 0, 0, (Go.Value.agg #[])⟩
theorem td112_ok : TDOk Try.prog 112 td112 := ⟨Try.underlying112, by kernel_rfl⟩
def td114 : TD := ⟨Go.TypeDesc.int Go.IntKind.u8, 1, 1, (Go.Value.int Go.IntKind.u8 0)⟩
theorem td114_ok : TDOk Try.prog 114 td114 := ⟨Try.underlying114, by kernel_rfl⟩
def td115 : TD := ⟨Go.TypeDesc.int Go.IntKind.u8, 1, 1, (Go.Value.int Go.IntKind.u8 0)⟩
theorem td115_ok : TDOk Try.prog 115 td115 := ⟨Try.underlying115, by kernel_rfl⟩
def td117 : TD := ⟨Go.TypeDesc.pointer 5, 1, 8, (Go.Value.pointer Option.none)⟩
theorem td117_ok : TDOk Try.prog 117 td117 := ⟨Try.underlying117, by kernel_rfl⟩
def td118 : TD := ⟨Go.TypeDesc.int Go.IntKind.i32, 1, 4, (Go.Value.int Go.IntKind.i32 0)⟩
theorem td118_ok : TDOk Try.prog 118 td118 := ⟨Try.underlying118, by kernel_rfl⟩
def td119 : TD := ⟨Go.TypeDesc.int Go.IntKind.i32, 1, 4, (Go.Value.int Go.IntKind.i32 0)⟩
theorem td119_ok : TDOk Try.prog 119 td119 := ⟨Try.underlying119, by kernel_rfl⟩
def td120 : TD := ⟨Go.TypeDesc.struct #[{ name := "Size_", type := 12, offset := 0, embedded := Bool.false, tag := "", pkgPath := "", byteOffset := 0 }, { name := "PtrBytes", type := 12, offset := 1, embedded := Bool.false, tag := "", pkgPath := "", byteOffset := 8 }, { name := "Hash", type := 83, offset := 2, embedded := Bool.false, tag := "", pkgPath := "", byteOffset := 16 }, { name := "TFlag", type := 114, offset := 3, embedded := Bool.false, tag := "", pkgPath := "", byteOffset := 20 }, { name := "Align_", type := 5, offset := 4, embedded := Bool.false, tag := "", pkgPath := "", byteOffset := 21 }, { name := "FieldAlign_", type := 5, offset := 5, embedded := Bool.false, tag := "", pkgPath := "", byteOffset := 22 }, { name := "Kind_", type := 115, offset := 6, embedded := Bool.false, tag := "", pkgPath := "", byteOffset := 23 }, { name := "Equal", type := 116, offset := 7, embedded := Bool.false, tag := "", pkgPath := "", byteOffset := 24 }, { name := "GCData", type := 117, offset := 8, embedded := Bool.false, tag := "", pkgPath := "", byteOffset := 32 }, { name := "Str", type := 118, offset := 9, embedded := Bool.false, tag := "", pkgPath := "", byteOffset := 40 }, { name := "PtrToThis", type := 119, offset := 10, embedded := Bool.false, tag := "", pkgPath := "", byteOffset := 44 }], 11, 48, (Go.Value.agg #[Go.Value.int Go.IntKind.u64 0, Go.Value.int Go.IntKind.u64 0, Go.Value.int Go.IntKind.u32 0, Go.Value.int Go.IntKind.u8 0, Go.Value.int Go.IntKind.u8 0, Go.Value.int Go.IntKind.u8 0, Go.Value.int Go.IntKind.u8 0, Go.Value.nilFunc, Go.Value.pointer Option.none, Go.Value.int Go.IntKind.i32 0, Go.Value.int Go.IntKind.i32 0])⟩
theorem td120_ok : TDOk Try.prog 120 td120 := ⟨Try.underlying120, by kernel_rfl⟩
def td121 : TD := ⟨Go.TypeDesc.struct #[{ name := "Size_", type := 12, offset := 0, embedded := Bool.false, tag := "", pkgPath := "", byteOffset := 0 }, { name := "PtrBytes", type := 12, offset := 1, embedded := Bool.false, tag := "", pkgPath := "", byteOffset := 8 }, { name := "Hash", type := 83, offset := 2, embedded := Bool.false, tag := "", pkgPath := "", byteOffset := 16 }, { name := "TFlag", type := 114, offset := 3, embedded := Bool.false, tag := "", pkgPath := "", byteOffset := 20 }, { name := "Align_", type := 5, offset := 4, embedded := Bool.false, tag := "", pkgPath := "", byteOffset := 21 }, { name := "FieldAlign_", type := 5, offset := 5, embedded := Bool.false, tag := "", pkgPath := "", byteOffset := 22 }, { name := "Kind_", type := 115, offset := 6, embedded := Bool.false, tag := "", pkgPath := "", byteOffset := 23 }, { name := "Equal", type := 116, offset := 7, embedded := Bool.false, tag := "", pkgPath := "", byteOffset := 24 }, { name := "GCData", type := 117, offset := 8, embedded := Bool.false, tag := "", pkgPath := "", byteOffset := 32 }, { name := "Str", type := 118, offset := 9, embedded := Bool.false, tag := "", pkgPath := "", byteOffset := 40 }, { name := "PtrToThis", type := 119, offset := 10, embedded := Bool.false, tag := "", pkgPath := "", byteOffset := 44 }], 11, 48, (Go.Value.agg #[Go.Value.int Go.IntKind.u64 0, Go.Value.int Go.IntKind.u64 0, Go.Value.int Go.IntKind.u32 0, Go.Value.int Go.IntKind.u8 0, Go.Value.int Go.IntKind.u8 0, Go.Value.int Go.IntKind.u8 0, Go.Value.int Go.IntKind.u8 0, Go.Value.nilFunc, Go.Value.pointer Option.none, Go.Value.int Go.IntKind.i32 0, Go.Value.int Go.IntKind.i32 0])⟩
theorem td121_ok : TDOk Try.prog 121 td121 := ⟨Try.underlying121, by kernel_rfl⟩
def tabT : List (Nat × TD) := [(2, td2), (3, td3), (4, td4), (5, td5), (6, td6), (7, td7), (8, td8), (9, td9), (10, td10), (11, td11), (12, td12), (13, td13), (14, td14), (15, td15), (16, td16), (17, td17), (18, td18), (19, td19), (21, td21), (22, td22), (23, td23), (24, td24), (27, td27), (32, td32), (33, td33), (34, td34), (35, td35), (36, td36), (42, td42), (43, td43), (44, td44), (45, td45), (50, td50), (51, td51), (57, td57), (63, td63), (67, td67), (68, td68), (83, td83), (85, td85), (86, td86), (88, td88), (89, td89), (90, td90), (91, td91), (92, td92), (93, td93), (99, td99), (103, td103), (105, td105), (106, td106), (110, td110), (111, td111), (112, td112), (114, td114), (115, td115), (117, td117), (118, td118), (119, td119), (120, td120), (121, td121)]
instance : Prg Try.prog where
  T := tabT
  ok := by
    intro p hp
    simp only [tabT, List.mem_cons, List.not_mem_nil, or_false] at hp
    rcases hp with rfl | rfl | rfl | rfl | rfl | rfl | rfl | rfl | rfl | rfl | rfl | rfl | rfl | rfl | rfl | rfl | rfl | rfl | rfl | rfl | rfl | rfl | rfl | rfl | rfl | rfl | rfl | rfl | rfl | rfl | rfl | rfl | rfl | rfl | rfl | rfl | rfl | rfl | rfl | rfl | rfl | rfl | rfl | rfl | rfl | rfl | rfl | rfl | rfl | rfl | rfl | rfl | rfl | rfl | rfl | rfl | rfl | rfl | rfl | rfl | rfl
    · exact td2_ok
    · exact td3_ok
    · exact td4_ok
    · exact td5_ok
    · exact td6_ok
    · exact td7_ok
    · exact td8_ok
    · exact td9_ok
    · exact td10_ok
    · exact td11_ok
    · exact td12_ok
    · exact td13_ok
    · exact td14_ok
    · exact td15_ok
    · exact td16_ok
    · exact td17_ok
    · exact td18_ok
    · exact td19_ok
    · exact td21_ok
    · exact td22_ok
    · exact td23_ok
    · exact td24_ok
    · exact td27_ok
    · exact td32_ok
    · exact td33_ok
    · exact td34_ok
    · exact td35_ok
    · exact td36_ok
    · exact td42_ok
    · exact td43_ok
    · exact td44_ok
    · exact td45_ok
    · exact td50_ok
    · exact td51_ok
    · exact td57_ok
    · exact td63_ok
    · exact td67_ok
    · exact td68_ok
    · exact td83_ok
    · exact td85_ok
    · exact td86_ok
    · exact td88_ok
    · exact td89_ok
    · exact td90_ok
    · exact td91_ok
    · exact td92_ok
    · exact td93_ok
    · exact td99_ok
    · exact td103_ok
    · exact td105_ok
    · exact td106_ok
    · exact td110_ok
    · exact td111_ok
    · exact td112_ok
    · exact td114_ok
    · exact td115_ok
    · exact td117_ok
    · exact td118_ok
    · exact td119_ok
    · exact td120_ok
    · exact td121_ok
  wide := by kernel_rfl
end Go.Proofs.Ytaaiimlaklpjpaa
