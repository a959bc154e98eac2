/- Part of the proofs about the layer of roads: What is known of the types of the program. '==' of structs and arrays of numbers. -/
import Derived.Test.YtlgclllkejioaaaGreatDoorPartD
import Derived.Test.YtlgclllkejioaaaGreatDoorProg
import Derived.Laws.StructEq
import Derived.ChangeKeysEq
import Derived.KernelRfl
set_option linter.unusedVariables false
set_option linter.unusedSimpArgs false

/- What is known of the types of the program. -/
namespace Go.Proofs.Am
open Go Go.RowKit

def ti1 : TI := ⟨TypeDesc.func #[] #[] false, 1, 8, [Value.nilFunc]⟩
theorem tiok1 : TIok Tryz.prog 1 ti1 := tiOf Tryz.underlying1 Tryz.type1 rfl
def ti2 : TI := ⟨TypeDesc.int IntKind.i64, 1, 8, [Value.int IntKind.i64 0]⟩
theorem tiok2 : TIok Tryz.prog 2 ti2 := tiOf Tryz.underlying2 Tryz.type2 rfl
def ti3 : TI := ⟨TypeDesc.int IntKind.i64, 1, 8, [Value.int IntKind.i64 0]⟩
theorem tiok3 : TIok Tryz.prog 3 ti3 := tiOf Tryz.underlying3 Tryz.type3 rfl
def ti4 : TI := ⟨TypeDesc.bool, 1, 1, [Value.bool false]⟩
theorem tiok4 : TIok Tryz.prog 4 ti4 := tiOf Tryz.underlying4 Tryz.type4 rfl
def ti5 : TI := ⟨TypeDesc.int IntKind.u8, 1, 1, [Value.int IntKind.u8 0]⟩
theorem tiok5 : TIok Tryz.prog 5 ti5 := tiOf Tryz.underlying5 Tryz.type5 rfl
def ti6 : TI := ⟨TypeDesc.int IntKind.u8, 1, 1, [Value.int IntKind.u8 0]⟩
theorem tiok6 : TIok Tryz.prog 6 ti6 := tiOf Tryz.underlying6 Tryz.type6 rfl
def ti7 : TI := ⟨TypeDesc.struct #[{ name := "x", type := 2, offset := 0, embedded := false, tag := "", pkgPath := "runtime", byteOffset := 0 }, { name := "y", type := 3, offset := 1, embedded := false, tag := "", pkgPath := "runtime", byteOffset := 8 }, { name := "signed", type := 4, offset := 2, embedded := false, tag := "", pkgPath := "runtime", byteOffset := 16 }, { name := "code", type := 6, offset := 3, embedded := false, tag := "", pkgPath := "runtime", byteOffset := 17 }], 4, 24, [Value.int IntKind.i64 0, Value.int IntKind.i64 0, Value.bool false, Value.int IntKind.u8 0]⟩
theorem tiok7 : TIok Tryz.prog 7 ti7 := tiOf Tryz.underlying7 Tryz.type7 rfl
def ti8 : TI := ⟨TypeDesc.struct #[{ name := "x", type := 2, offset := 0, embedded := false, tag := "", pkgPath := "runtime", byteOffset := 0 }, { name := "y", type := 3, offset := 1, embedded := false, tag := "", pkgPath := "runtime", byteOffset := 8 }, { name := "signed", type := 4, offset := 2, embedded := false, tag := "", pkgPath := "runtime", byteOffset := 16 }, { name := "code", type := 6, offset := 3, embedded := false, tag := "", pkgPath := "runtime", byteOffset := 17 }], 4, 24, [Value.int IntKind.i64 0, Value.int IntKind.i64 0, Value.bool false, Value.int IntKind.u8 0]⟩
theorem tiok8 : TIok Tryz.prog 8 ti8 := tiOf Tryz.underlying8 Tryz.type8 rfl
def ti9 : TI := ⟨TypeDesc.string, 1, 16, [Value.string ⟨#[]⟩]⟩
theorem tiok9 : TIok Tryz.prog 9 ti9 := tiOf Tryz.underlying9 Tryz.type9 rfl
def ti10 : TI := ⟨TypeDesc.string, 1, 16, [Value.string ⟨#[]⟩]⟩
theorem tiok10 : TIok Tryz.prog 10 ti10 := tiOf Tryz.underlying10 Tryz.type10 rfl
def ti11 : TI := ⟨TypeDesc.string, 1, 16, [Value.string ⟨#[]⟩]⟩
theorem tiok11 : TIok Tryz.prog 11 ti11 := tiOf Tryz.underlying11 Tryz.type11 rfl
def ti12 : TI := ⟨TypeDesc.int IntKind.u64, 1, 8, [Value.int IntKind.u64 0]⟩
theorem tiok12 : TIok Tryz.prog 12 ti12 := tiOf Tryz.underlying12 Tryz.type12 rfl
def ti13 : TI := ⟨TypeDesc.struct #[{ name := "msg", type := 9, offset := 0, embedded := false, tag := "", pkgPath := "runtime", byteOffset := 0 }, { name := "addr", type := 12, offset := 1, embedded := false, tag := "", pkgPath := "runtime", byteOffset := 16 }], 2, 24, [Value.string ⟨#[]⟩, Value.int IntKind.u64 0]⟩
theorem tiok13 : TIok Tryz.prog 13 ti13 := tiOf Tryz.underlying13 Tryz.type13 rfl
def ti14 : TI := ⟨TypeDesc.struct #[{ name := "msg", type := 9, offset := 0, embedded := false, tag := "", pkgPath := "runtime", byteOffset := 0 }, { name := "addr", type := 12, offset := 1, embedded := false, tag := "", pkgPath := "runtime", byteOffset := 16 }], 2, 24, [Value.string ⟨#[]⟩, Value.int IntKind.u64 0]⟩
theorem tiok14 : TIok Tryz.prog 14 ti14 := tiOf Tryz.underlying14 Tryz.type14 rfl
def ti18 : TI := ⟨TypeDesc.struct #[{ name := "typ", type := 17, offset := 0, embedded := false, tag := "", pkgPath := "internal/runtime/maps", byteOffset := 0 }], 1, 8, [Value.pointer none]⟩
theorem tiok18 : TIok Tryz.prog 18 ti18 := tiOf Tryz.underlying18 Tryz.type18 rfl
def ti19 : TI := ⟨TypeDesc.struct #[{ name := "typ", type := 17, offset := 0, embedded := false, tag := "", pkgPath := "internal/runtime/maps", byteOffset := 0 }], 1, 8, [Value.pointer none]⟩
theorem tiok19 : TIok Tryz.prog 19 ti19 := tiOf Tryz.underlying19 Tryz.type19 rfl
def ti21 : TI := ⟨TypeDesc.int IntKind.i32, 1, 4, [Value.int IntKind.i32 0]⟩
theorem tiok21 : TIok Tryz.prog 21 ti21 := tiOf Tryz.underlying21 Tryz.type21 rfl
def ti22 : TI := ⟨TypeDesc.slice 54, 1, 24, [Value.slice none 0 0]⟩
theorem tiok22 : TIok Tryz.prog 22 ti22 := tiOf Tryz.underlying22 Tryz.type22 rfl
def ti23 : TI := ⟨TypeDesc.slice 57, 1, 24, [Value.slice none 0 0]⟩
theorem tiok23 : TIok Tryz.prog 23 ti23 := tiOf Tryz.underlying23 Tryz.type23 rfl
def ti24 : TI := ⟨TypeDesc.slice 123, 1, 24, [Value.slice none 0 0]⟩
theorem tiok24 : TIok Tryz.prog 24 ti24 := tiOf Tryz.underlying24 Tryz.type24 rfl
def ti25 : TI := ⟨TypeDesc.slice 100, 1, 24, [Value.slice none 0 0]⟩
theorem tiok25 : TIok Tryz.prog 25 ti25 := tiOf Tryz.underlying25 Tryz.type25 rfl
def ti26 : TI := ⟨TypeDesc.struct #[{ name := "Roads", type := 22, offset := 0, embedded := false, tag := "", pkgPath := "", byteOffset := 0 }, { name := "Trees", type := 23, offset := 1, embedded := false, tag := "", pkgPath := "", byteOffset := 24 }, { name := "Fronts", type := 24, offset := 2, embedded := false, tag := "", pkgPath := "", byteOffset := 48 }, { name := "Columns", type := 25, offset := 3, embedded := false, tag := "", pkgPath := "", byteOffset := 72 }], 4, 96, [Value.slice none 0 0, Value.slice none 0 0, Value.slice none 0 0, Value.slice none 0 0]⟩
theorem tiok26 : TIok Tryz.prog 26 ti26 := tiOf Tryz.underlying26 Tryz.type26 rfl
def ti27 : TI := ⟨TypeDesc.struct #[{ name := "Roads", type := 22, offset := 0, embedded := false, tag := "", pkgPath := "", byteOffset := 0 }, { name := "Trees", type := 23, offset := 1, embedded := false, tag := "", pkgPath := "", byteOffset := 24 }, { name := "Fronts", type := 24, offset := 2, embedded := false, tag := "", pkgPath := "", byteOffset := 48 }, { name := "Columns", type := 25, offset := 3, embedded := false, tag := "", pkgPath := "", byteOffset := 72 }], 4, 96, [Value.slice none 0 0, Value.slice none 0 0, Value.slice none 0 0, Value.slice none 0 0]⟩
theorem tiok27 : TIok Tryz.prog 27 ti27 := tiOf Tryz.underlying27 Tryz.type27 rfl
def ti28 : TI := ⟨TypeDesc.struct #[{ name := "X0", type := 3, offset := 0, embedded := false, tag := "", pkgPath := "", byteOffset := 0 }, { name := "Y0", type := 3, offset := 1, embedded := false, tag := "", pkgPath := "", byteOffset := 8 }, { name := "X1", type := 3, offset := 2, embedded := false, tag := "", pkgPath := "", byteOffset := 16 }, { name := "Y1", type := 3, offset := 3, embedded := false, tag := "", pkgPath := "", byteOffset := 24 }], 4, 32, [Value.int IntKind.i64 0, Value.int IntKind.i64 0, Value.int IntKind.i64 0, Value.int IntKind.i64 0]⟩
theorem tiok28 : TIok Tryz.prog 28 ti28 := tiOf Tryz.underlying28 Tryz.type28 rfl
def ti29 : TI := ⟨TypeDesc.struct #[{ name := "X0", type := 3, offset := 0, embedded := false, tag := "", pkgPath := "", byteOffset := 0 }, { name := "Y0", type := 3, offset := 1, embedded := false, tag := "", pkgPath := "", byteOffset := 8 }, { name := "X1", type := 3, offset := 2, embedded := false, tag := "", pkgPath := "", byteOffset := 16 }, { name := "Y1", type := 3, offset := 3, embedded := false, tag := "", pkgPath := "", byteOffset := 24 }], 4, 32, [Value.int IntKind.i64 0, Value.int IntKind.i64 0, Value.int IntKind.i64 0, Value.int IntKind.i64 0]⟩
theorem tiok29 : TIok Tryz.prog 29 ti29 := tiOf Tryz.underlying29 Tryz.type29 rfl
def ti30 : TI := ⟨TypeDesc.struct #[{ name := "Index", type := 3, offset := 0, embedded := false, tag := "", pkgPath := "", byteOffset := 0 }, { name := "X", type := 3, offset := 1, embedded := false, tag := "", pkgPath := "", byteOffset := 8 }, { name := "Y", type := 3, offset := 2, embedded := false, tag := "", pkgPath := "", byteOffset := 16 }, { name := "Patch", type := 29, offset := 3, embedded := false, tag := "", pkgPath := "", byteOffset := 24 }], 7, 56, [Value.int IntKind.i64 0, Value.int IntKind.i64 0, Value.int IntKind.i64 0, Value.int IntKind.i64 0, Value.int IntKind.i64 0, Value.int IntKind.i64 0, Value.int IntKind.i64 0]⟩
theorem tiok30 : TIok Tryz.prog 30 ti30 := tiOf Tryz.underlying30 Tryz.type30 rfl
def ti31 : TI := ⟨TypeDesc.struct #[{ name := "Index", type := 3, offset := 0, embedded := false, tag := "", pkgPath := "", byteOffset := 0 }, { name := "X", type := 3, offset := 1, embedded := false, tag := "", pkgPath := "", byteOffset := 8 }, { name := "Y", type := 3, offset := 2, embedded := false, tag := "", pkgPath := "", byteOffset := 16 }, { name := "Patch", type := 29, offset := 3, embedded := false, tag := "", pkgPath := "", byteOffset := 24 }], 7, 56, [Value.int IntKind.i64 0, Value.int IntKind.i64 0, Value.int IntKind.i64 0, Value.int IntKind.i64 0, Value.int IntKind.i64 0, Value.int IntKind.i64 0, Value.int IntKind.i64 0]⟩
theorem tiok31 : TIok Tryz.prog 31 ti31 := tiOf Tryz.underlying31 Tryz.type31 rfl
def ti32 : TI := ⟨TypeDesc.int IntKind.i64, 1, 8, [Value.int IntKind.i64 0]⟩
theorem tiok32 : TIok Tryz.prog 32 ti32 := tiOf Tryz.underlying32 Tryz.type32 rfl
def ti34 : TI := ⟨TypeDesc.func #[27, 3, 3, 3] #[3, 32] false, 1, 8, [Value.nilFunc]⟩
theorem tiok34 : TIok Tryz.prog 34 ti34 := tiOf Tryz.underlying34 Tryz.type34 rfl
def ti35 : TI := ⟨TypeDesc.func #[27, 3, 29] #[3, 32] false, 1, 8, [Value.nilFunc]⟩
theorem tiok35 : TIok Tryz.prog 35 ti35 := tiOf Tryz.underlying35 Tryz.type35 rfl
def ti36 : TI := ⟨TypeDesc.func #[] #[4] false, 1, 8, [Value.nilFunc]⟩
theorem tiok36 : TIok Tryz.prog 36 ti36 := tiOf Tryz.underlying36 Tryz.type36 rfl
def ti37 : TI := ⟨TypeDesc.func #[27, 31] #[4] false, 1, 8, [Value.nilFunc]⟩
theorem tiok37 : TIok Tryz.prog 37 ti37 := tiOf Tryz.underlying37 Tryz.type37 rfl
def ti38 : TI := ⟨TypeDesc.struct #[{ name := "Index", type := 3, offset := 0, embedded := false, tag := "", pkgPath := "", byteOffset := 0 }, { name := "Patch", type := 29, offset := 1, embedded := false, tag := "", pkgPath := "", byteOffset := 8 }, { name := "AX", type := 5, offset := 5, embedded := false, tag := "", pkgPath := "", byteOffset := 40 }, { name := "AY", type := 5, offset := 6, embedded := false, tag := "", pkgPath := "", byteOffset := 41 }], 7, 48, [Value.int IntKind.i64 0, Value.int IntKind.i64 0, Value.int IntKind.i64 0, Value.int IntKind.i64 0, Value.int IntKind.i64 0, Value.int IntKind.u8 0, Value.int IntKind.u8 0]⟩
theorem tiok38 : TIok Tryz.prog 38 ti38 := tiOf Tryz.underlying38 Tryz.type38 rfl
def ti39 : TI := ⟨TypeDesc.struct #[{ name := "Index", type := 3, offset := 0, embedded := false, tag := "", pkgPath := "", byteOffset := 0 }, { name := "Patch", type := 29, offset := 1, embedded := false, tag := "", pkgPath := "", byteOffset := 8 }, { name := "AX", type := 5, offset := 5, embedded := false, tag := "", pkgPath := "", byteOffset := 40 }, { name := "AY", type := 5, offset := 6, embedded := false, tag := "", pkgPath := "", byteOffset := 41 }], 7, 48, [Value.int IntKind.i64 0, Value.int IntKind.i64 0, Value.int IntKind.i64 0, Value.int IntKind.i64 0, Value.int IntKind.i64 0, Value.int IntKind.u8 0, Value.int IntKind.u8 0]⟩
theorem tiok39 : TIok Tryz.prog 39 ti39 := tiOf Tryz.underlying39 Tryz.type39 rfl
def ti41 : TI := ⟨TypeDesc.func #[39] #[3, 3, 4] false, 1, 8, [Value.nilFunc]⟩
theorem tiok41 : TIok Tryz.prog 41 ti41 := tiOf Tryz.underlying41 Tryz.type41 rfl
def ti43 : TI := ⟨TypeDesc.func #[29, 4] #[29, 29] false, 1, 8, [Value.nilFunc]⟩
theorem tiok43 : TIok Tryz.prog 43 ti43 := tiOf Tryz.underlying43 Tryz.type43 rfl
def ti44 : TI := ⟨TypeDesc.func #[27, 39, 4] #[4] false, 1, 8, [Value.nilFunc]⟩
theorem tiok44 : TIok Tryz.prog 44 ti44 := tiOf Tryz.underlying44 Tryz.type44 rfl
def ti46 : TI := ⟨TypeDesc.func #[27] #[3, 3, 32] false, 1, 8, [Value.nilFunc]⟩
theorem tiok46 : TIok Tryz.prog 46 ti46 := tiOf Tryz.underlying46 Tryz.type46 rfl
def ti48 : TI := ⟨TypeDesc.func #[27, 3, 3, 3] #[4, 32] false, 1, 8, [Value.nilFunc]⟩
theorem tiok48 : TIok Tryz.prog 48 ti48 := tiOf Tryz.underlying48 Tryz.type48 rfl
def ti49 : TI := ⟨TypeDesc.func #[27, 39] #[4] false, 1, 8, [Value.nilFunc]⟩
theorem tiok49 : TIok Tryz.prog 49 ti49 := tiOf Tryz.underlying49 Tryz.type49 rfl
def ti50 : TI := ⟨TypeDesc.struct #[{ name := "R", type := 5, offset := 0, embedded := false, tag := "", pkgPath := "", byteOffset := 0 }, { name := "High", type := 5, offset := 1, embedded := false, tag := "", pkgPath := "", byteOffset := 1 }, { name := "Low", type := 5, offset := 2, embedded := false, tag := "", pkgPath := "", byteOffset := 2 }, { name := "Width", type := 5, offset := 3, embedded := false, tag := "", pkgPath := "", byteOffset := 3 }, { name := "Tree", type := 5, offset := 4, embedded := false, tag := "", pkgPath := "", byteOffset := 4 }], 5, 5, [Value.int IntKind.u8 0, Value.int IntKind.u8 0, Value.int IntKind.u8 0, Value.int IntKind.u8 0, Value.int IntKind.u8 0]⟩
theorem tiok50 : TIok Tryz.prog 50 ti50 := tiOf Tryz.underlying50 Tryz.type50 rfl
def ti51 : TI := ⟨TypeDesc.struct #[{ name := "R", type := 5, offset := 0, embedded := false, tag := "", pkgPath := "", byteOffset := 0 }, { name := "High", type := 5, offset := 1, embedded := false, tag := "", pkgPath := "", byteOffset := 1 }, { name := "Low", type := 5, offset := 2, embedded := false, tag := "", pkgPath := "", byteOffset := 2 }, { name := "Width", type := 5, offset := 3, embedded := false, tag := "", pkgPath := "", byteOffset := 3 }, { name := "Tree", type := 5, offset := 4, embedded := false, tag := "", pkgPath := "", byteOffset := 4 }], 5, 5, [Value.int IntKind.u8 0, Value.int IntKind.u8 0, Value.int IntKind.u8 0, Value.int IntKind.u8 0, Value.int IntKind.u8 0]⟩
theorem tiok51 : TIok Tryz.prog 51 ti51 := tiOf Tryz.underlying51 Tryz.type51 rfl
def ti52 : TI := ⟨TypeDesc.slice 72, 1, 24, [Value.slice none 0 0]⟩
theorem tiok52 : TIok Tryz.prog 52 ti52 := tiOf Tryz.underlying52 Tryz.type52 rfl
def ti53 : TI := ⟨TypeDesc.struct #[{ name := "Name", type := 9, offset := 0, embedded := false, tag := "", pkgPath := "", byteOffset := 0 }, { name := "Kind", type := 3, offset := 1, embedded := false, tag := "", pkgPath := "", byteOffset := 16 }, { name := "Points", type := 52, offset := 2, embedded := false, tag := "", pkgPath := "", byteOffset := 24 }, { name := "Width", type := 3, offset := 3, embedded := false, tag := "", pkgPath := "", byteOffset := 48 }], 4, 56, [Value.string ⟨#[]⟩, Value.int IntKind.i64 0, Value.slice none 0 0, Value.int IntKind.i64 0]⟩
theorem tiok53 : TIok Tryz.prog 53 ti53 := tiOf Tryz.underlying53 Tryz.type53 rfl
def ti54 : TI := ⟨TypeDesc.struct #[{ name := "Name", type := 9, offset := 0, embedded := false, tag := "", pkgPath := "", byteOffset := 0 }, { name := "Kind", type := 3, offset := 1, embedded := false, tag := "", pkgPath := "", byteOffset := 16 }, { name := "Points", type := 52, offset := 2, embedded := false, tag := "", pkgPath := "", byteOffset := 24 }, { name := "Width", type := 3, offset := 3, embedded := false, tag := "", pkgPath := "", byteOffset := 48 }], 4, 56, [Value.string ⟨#[]⟩, Value.int IntKind.i64 0, Value.slice none 0 0, Value.int IntKind.i64 0]⟩
theorem tiok54 : TIok Tryz.prog 54 ti54 := tiOf Tryz.underlying54 Tryz.type54 rfl
def ti56 : TI := ⟨TypeDesc.struct #[{ name := "X", type := 3, offset := 0, embedded := false, tag := "", pkgPath := "", byteOffset := 0 }, { name := "Y", type := 3, offset := 1, embedded := false, tag := "", pkgPath := "", byteOffset := 8 }, { name := "R", type := 3, offset := 2, embedded := false, tag := "", pkgPath := "", byteOffset := 16 }, { name := "Low", type := 3, offset := 3, embedded := false, tag := "", pkgPath := "", byteOffset := 24 }, { name := "High", type := 3, offset := 4, embedded := false, tag := "", pkgPath := "", byteOffset := 32 }], 5, 40, [Value.int IntKind.i64 0, Value.int IntKind.i64 0, Value.int IntKind.i64 0, Value.int IntKind.i64 0, Value.int IntKind.i64 0]⟩
theorem tiok56 : TIok Tryz.prog 56 ti56 := tiOf Tryz.underlying56 Tryz.type56 rfl
def ti57 : TI := ⟨TypeDesc.struct #[{ name := "X", type := 3, offset := 0, embedded := false, tag := "", pkgPath := "", byteOffset := 0 }, { name := "Y", type := 3, offset := 1, embedded := false, tag := "", pkgPath := "", byteOffset := 8 }, { name := "R", type := 3, offset := 2, embedded := false, tag := "", pkgPath := "", byteOffset := 16 }, { name := "Low", type := 3, offset := 3, embedded := false, tag := "", pkgPath := "", byteOffset := 24 }, { name := "High", type := 3, offset := 4, embedded := false, tag := "", pkgPath := "", byteOffset := 32 }], 5, 40, [Value.int IntKind.i64 0, Value.int IntKind.i64 0, Value.int IntKind.i64 0, Value.int IntKind.i64 0, Value.int IntKind.i64 0]⟩
theorem tiok57 : TIok Tryz.prog 57 ti57 := tiOf Tryz.underlying57 Tryz.type57 rfl
def ti58 : TI := ⟨TypeDesc.func #[27, 31, 51] #[4] false, 1, 8, [Value.nilFunc]⟩
theorem tiok58 : TIok Tryz.prog 58 ti58 := tiOf Tryz.underlying58 Tryz.type58 rfl
def ti59 : TI := ⟨TypeDesc.struct #[{ name := "Turn", type := 4, offset := 0, embedded := false, tag := "", pkgPath := "", byteOffset := 0 }, { name := "X", type := 3, offset := 1, embedded := false, tag := "", pkgPath := "", byteOffset := 8 }, { name := "Y", type := 3, offset := 2, embedded := false, tag := "", pkgPath := "", byteOffset := 16 }], 3, 24, [Value.bool false, Value.int IntKind.i64 0, Value.int IntKind.i64 0]⟩
theorem tiok59 : TIok Tryz.prog 59 ti59 := tiOf Tryz.underlying59 Tryz.type59 rfl
def ti60 : TI := ⟨TypeDesc.struct #[{ name := "Turn", type := 4, offset := 0, embedded := false, tag := "", pkgPath := "", byteOffset := 0 }, { name := "X", type := 3, offset := 1, embedded := false, tag := "", pkgPath := "", byteOffset := 8 }, { name := "Y", type := 3, offset := 2, embedded := false, tag := "", pkgPath := "", byteOffset := 16 }], 3, 24, [Value.bool false, Value.int IntKind.i64 0, Value.int IntKind.i64 0]⟩
theorem tiok60 : TIok Tryz.prog 60 ti60 := tiOf Tryz.underlying60 Tryz.type60 rfl
def ti61 : TI := ⟨TypeDesc.func #[27, 60] #[27] false, 1, 8, [Value.nilFunc]⟩
theorem tiok61 : TIok Tryz.prog 61 ti61 := tiOf Tryz.underlying61 Tryz.type61 rfl
def ti63 : TI := ⟨TypeDesc.func #[60, 3, 3] #[3, 3] false, 1, 8, [Value.nilFunc]⟩
theorem tiok63 : TIok Tryz.prog 63 ti63 := tiOf Tryz.underlying63 Tryz.type63 rfl
def ti64 : TI := ⟨TypeDesc.func #[27, 3, 3] #[4, 32] false, 1, 8, [Value.nilFunc]⟩
theorem tiok64 : TIok Tryz.prog 64 ti64 := tiOf Tryz.underlying64 Tryz.type64 rfl
def ti65 : TI := ⟨TypeDesc.func #[27, 31, 60] #[4] false, 1, 8, [Value.nilFunc]⟩
theorem tiok65 : TIok Tryz.prog 65 ti65 := tiOf Tryz.underlying65 Tryz.type65 rfl
def ti66 : TI := ⟨TypeDesc.array 3 3, 3, 24, [Value.int IntKind.i64 0, Value.int IntKind.i64 0, Value.int IntKind.i64 0]⟩
theorem tiok66 : TIok Tryz.prog 66 ti66 := tiOf Tryz.underlying66 Tryz.type66 rfl
def ti67 : TI := ⟨TypeDesc.struct #[{ name := "X0", type := 3, offset := 0, embedded := false, tag := "", pkgPath := "", byteOffset := 0 }, { name := "Y0", type := 3, offset := 1, embedded := false, tag := "", pkgPath := "", byteOffset := 8 }, { name := "X1", type := 3, offset := 2, embedded := false, tag := "", pkgPath := "", byteOffset := 16 }, { name := "Y1", type := 3, offset := 3, embedded := false, tag := "", pkgPath := "", byteOffset := 24 }, { name := "Low", type := 3, offset := 4, embedded := false, tag := "", pkgPath := "", byteOffset := 32 }, { name := "High", type := 3, offset := 5, embedded := false, tag := "", pkgPath := "", byteOffset := 40 }], 6, 48, [Value.int IntKind.i64 0, Value.int IntKind.i64 0, Value.int IntKind.i64 0, Value.int IntKind.i64 0, Value.int IntKind.i64 0, Value.int IntKind.i64 0]⟩
theorem tiok67 : TIok Tryz.prog 67 ti67 := tiOf Tryz.underlying67 Tryz.type67 rfl
def ti68 : TI := ⟨TypeDesc.struct #[{ name := "X0", type := 3, offset := 0, embedded := false, tag := "", pkgPath := "", byteOffset := 0 }, { name := "Y0", type := 3, offset := 1, embedded := false, tag := "", pkgPath := "", byteOffset := 8 }, { name := "X1", type := 3, offset := 2, embedded := false, tag := "", pkgPath := "", byteOffset := 16 }, { name := "Y1", type := 3, offset := 3, embedded := false, tag := "", pkgPath := "", byteOffset := 24 }, { name := "Low", type := 3, offset := 4, embedded := false, tag := "", pkgPath := "", byteOffset := 32 }, { name := "High", type := 3, offset := 5, embedded := false, tag := "", pkgPath := "", byteOffset := 40 }], 6, 48, [Value.int IntKind.i64 0, Value.int IntKind.i64 0, Value.int IntKind.i64 0, Value.int IntKind.i64 0, Value.int IntKind.i64 0, Value.int IntKind.i64 0]⟩
theorem tiok68 : TIok Tryz.prog 68 ti68 := tiOf Tryz.underlying68 Tryz.type68 rfl
def ti70 : TI := ⟨TypeDesc.func #[27, 3, 3] #[68, 32] false, 1, 8, [Value.nilFunc]⟩
theorem tiok70 : TIok Tryz.prog 70 ti70 := tiOf Tryz.underlying70 Tryz.type70 rfl
def ti71 : TI := ⟨TypeDesc.func #[27, 66] #[4] false, 1, 8, [Value.nilFunc]⟩
theorem tiok71 : TIok Tryz.prog 71 ti71 := tiOf Tryz.underlying71 Tryz.type71 rfl
def ti72 : TI := ⟨TypeDesc.array 2 3, 2, 16, [Value.int IntKind.i64 0, Value.int IntKind.i64 0]⟩
theorem tiok72 : TIok Tryz.prog 72 ti72 := tiOf Tryz.underlying72 Tryz.type72 rfl
def ti73 : TI := ⟨TypeDesc.slice 3, 1, 24, [Value.slice none 0 0]⟩
theorem tiok73 : TIok Tryz.prog 73 ti73 := tiOf Tryz.underlying73 Tryz.type73 rfl
def ti75 : TI := ⟨TypeDesc.func #[27, 3] #[73, 32] false, 1, 8, [Value.nilFunc]⟩
theorem tiok75 : TIok Tryz.prog 75 ti75 := tiOf Tryz.underlying75 Tryz.type75 rfl
def ti76 : TI := ⟨TypeDesc.slice 29, 1, 24, [Value.slice none 0 0]⟩
theorem tiok76 : TIok Tryz.prog 76 ti76 := tiOf Tryz.underlying76 Tryz.type76 rfl
def ti78 : TI := ⟨TypeDesc.func #[27, 3, 3] #[76, 32] false, 1, 8, [Value.nilFunc]⟩
theorem tiok78 : TIok Tryz.prog 78 ti78 := tiOf Tryz.underlying78 Tryz.type78 rfl
def ti79 : TI := ⟨TypeDesc.func #[27, 3, 3] #[4] false, 1, 8, [Value.nilFunc]⟩
theorem tiok79 : TIok Tryz.prog 79 ti79 := tiOf Tryz.underlying79 Tryz.type79 rfl
def ti80 : TI := ⟨TypeDesc.func #[27, 31, 3] #[4] false, 1, 8, [Value.nilFunc]⟩
theorem tiok80 : TIok Tryz.prog 80 ti80 := tiOf Tryz.underlying80 Tryz.type80 rfl
def ti81 : TI := ⟨TypeDesc.func #[27] #[73, 32] false, 1, 8, [Value.nilFunc]⟩
theorem tiok81 : TIok Tryz.prog 81 ti81 := tiOf Tryz.underlying81 Tryz.type81 rfl
def ti82 : TI := ⟨TypeDesc.func #[73, 73] #[4] false, 1, 8, [Value.nilFunc]⟩
theorem tiok82 : TIok Tryz.prog 82 ti82 := tiOf Tryz.underlying82 Tryz.type82 rfl
def ti83 : TI := ⟨TypeDesc.slice 87, 1, 24, [Value.slice none 0 0]⟩
theorem tiok83 : TIok Tryz.prog 83 ti83 := tiOf Tryz.underlying83 Tryz.type83 rfl
def ti85 : TI := ⟨TypeDesc.func #[27] #[83, 32] false, 1, 8, [Value.nilFunc]⟩
theorem tiok85 : TIok Tryz.prog 85 ti85 := tiOf Tryz.underlying85 Tryz.type85 rfl
def ti86 : TI := ⟨TypeDesc.struct #[{ name := "X", type := 3, offset := 0, embedded := false, tag := "", pkgPath := "", byteOffset := 0 }, { name := "Y", type := 3, offset := 1, embedded := false, tag := "", pkgPath := "", byteOffset := 8 }, { name := "Roads", type := 73, offset := 2, embedded := false, tag := "", pkgPath := "", byteOffset := 16 }], 3, 40, [Value.int IntKind.i64 0, Value.int IntKind.i64 0, Value.slice none 0 0]⟩
theorem tiok86 : TIok Tryz.prog 86 ti86 := tiOf Tryz.underlying86 Tryz.type86 rfl
def ti87 : TI := ⟨TypeDesc.struct #[{ name := "X", type := 3, offset := 0, embedded := false, tag := "", pkgPath := "", byteOffset := 0 }, { name := "Y", type := 3, offset := 1, embedded := false, tag := "", pkgPath := "", byteOffset := 8 }, { name := "Roads", type := 73, offset := 2, embedded := false, tag := "", pkgPath := "", byteOffset := 16 }], 3, 40, [Value.int IntKind.i64 0, Value.int IntKind.i64 0, Value.slice none 0 0]⟩
theorem tiok87 : TIok Tryz.prog 87 ti87 := tiOf Tryz.underlying87 Tryz.type87 rfl
def ti88 : TI := ⟨TypeDesc.func #[27, 3] #[4] false, 1, 8, [Value.nilFunc]⟩
theorem tiok88 : TIok Tryz.prog 88 ti88 := tiOf Tryz.underlying88 Tryz.type88 rfl
def ti89 : TI := ⟨TypeDesc.func #[] #[27] false, 1, 8, [Value.nilFunc]⟩
theorem tiok89 : TIok Tryz.prog 89 ti89 := tiOf Tryz.underlying89 Tryz.type89 rfl
def ti90 : TI := ⟨TypeDesc.slice 66, 1, 24, [Value.slice none 0 0]⟩
theorem tiok90 : TIok Tryz.prog 90 ti90 := tiOf Tryz.underlying90 Tryz.type90 rfl
def ti91 : TI := ⟨TypeDesc.func #[27, 73] #[32] true, 1, 8, [Value.nilFunc]⟩
theorem tiok91 : TIok Tryz.prog 91 ti91 := tiOf Tryz.underlying91 Tryz.type91 rfl
def ti92 : TI := ⟨TypeDesc.func #[73] #[4] true, 1, 8, [Value.nilFunc]⟩
theorem tiok92 : TIok Tryz.prog 92 ti92 := tiOf Tryz.underlying92 Tryz.type92 rfl
def ti93 : TI := ⟨TypeDesc.func #[23, 102] #[3] false, 1, 8, [Value.nilFunc]⟩
theorem tiok93 : TIok Tryz.prog 93 ti93 := tiOf Tryz.underlying93 Tryz.type93 rfl
def ti94 : TI := ⟨TypeDesc.struct #[{ name := "x", type := 3, offset := 0, embedded := false, tag := "", pkgPath := "linkboy/road", byteOffset := 0 }, { name := "y", type := 3, offset := 1, embedded := false, tag := "", pkgPath := "linkboy/road", byteOffset := 8 }], 2, 16, [Value.int IntKind.i64 0, Value.int IntKind.i64 0]⟩
theorem tiok94 : TIok Tryz.prog 94 ti94 := tiOf Tryz.underlying94 Tryz.type94 rfl
def ti95 : TI := ⟨TypeDesc.struct #[{ name := "x", type := 3, offset := 0, embedded := false, tag := "", pkgPath := "linkboy/road", byteOffset := 0 }, { name := "y", type := 3, offset := 1, embedded := false, tag := "", pkgPath := "linkboy/road", byteOffset := 8 }], 2, 16, [Value.int IntKind.i64 0, Value.int IntKind.i64 0]⟩
theorem tiok95 : TIok Tryz.prog 95 ti95 := tiOf Tryz.underlying95 Tryz.type95 rfl
def ti96 : TI := ⟨TypeDesc.struct #[{ name := "lamp", type := 95, offset := 0, embedded := false, tag := "", pkgPath := "linkboy/road", byteOffset := 0 }, { name := "height", type := 3, offset := 2, embedded := false, tag := "", pkgPath := "linkboy/road", byteOffset := 16 }, { name := "n0", type := 3, offset := 3, embedded := false, tag := "", pkgPath := "linkboy/road", byteOffset := 24 }, { name := "n1", type := 3, offset := 4, embedded := false, tag := "", pkgPath := "linkboy/road", byteOffset := 32 }, { name := "axis", type := 95, offset := 5, embedded := false, tag := "", pkgPath := "linkboy/road", byteOffset := 40 }, { name := "radius", type := 3, offset := 7, embedded := false, tag := "", pkgPath := "linkboy/road", byteOffset := 56 }, { name := "none", type := 4, offset := 8, embedded := false, tag := "", pkgPath := "linkboy/road", byteOffset := 64 }], 9, 72, [Value.int IntKind.i64 0, Value.int IntKind.i64 0, Value.int IntKind.i64 0, Value.int IntKind.i64 0, Value.int IntKind.i64 0, Value.int IntKind.i64 0, Value.int IntKind.i64 0, Value.int IntKind.i64 0, Value.bool false]⟩
theorem tiok96 : TIok Tryz.prog 96 ti96 := tiOf Tryz.underlying96 Tryz.type96 rfl
def ti97 : TI := ⟨TypeDesc.struct #[{ name := "lamp", type := 95, offset := 0, embedded := false, tag := "", pkgPath := "linkboy/road", byteOffset := 0 }, { name := "height", type := 3, offset := 2, embedded := false, tag := "", pkgPath := "linkboy/road", byteOffset := 16 }, { name := "n0", type := 3, offset := 3, embedded := false, tag := "", pkgPath := "linkboy/road", byteOffset := 24 }, { name := "n1", type := 3, offset := 4, embedded := false, tag := "", pkgPath := "linkboy/road", byteOffset := 32 }, { name := "axis", type := 95, offset := 5, embedded := false, tag := "", pkgPath := "linkboy/road", byteOffset := 40 }, { name := "radius", type := 3, offset := 7, embedded := false, tag := "", pkgPath := "linkboy/road", byteOffset := 56 }, { name := "none", type := 4, offset := 8, embedded := false, tag := "", pkgPath := "linkboy/road", byteOffset := 64 }], 9, 72, [Value.int IntKind.i64 0, Value.int IntKind.i64 0, Value.int IntKind.i64 0, Value.int IntKind.i64 0, Value.int IntKind.i64 0, Value.int IntKind.i64 0, Value.int IntKind.i64 0, Value.int IntKind.i64 0, Value.bool false]⟩
theorem tiok97 : TIok Tryz.prog 97 ti97 := tiOf Tryz.underlying97 Tryz.type97 rfl
def ti98 : TI := ⟨TypeDesc.func #[100, 57] #[97] false, 1, 8, [Value.nilFunc]⟩
theorem tiok98 : TIok Tryz.prog 98 ti98 := tiOf Tryz.underlying98 Tryz.type98 rfl
def ti99 : TI := ⟨TypeDesc.struct #[{ name := "Name", type := 9, offset := 0, embedded := false, tag := "", pkgPath := "", byteOffset := 0 }, { name := "X", type := 3, offset := 1, embedded := false, tag := "", pkgPath := "", byteOffset := 16 }, { name := "Y", type := 3, offset := 2, embedded := false, tag := "", pkgPath := "", byteOffset := 24 }, { name := "Height", type := 3, offset := 3, embedded := false, tag := "", pkgPath := "", byteOffset := 32 }, { name := "DX", type := 3, offset := 4, embedded := false, tag := "", pkgPath := "", byteOffset := 40 }, { name := "DY", type := 3, offset := 5, embedded := false, tag := "", pkgPath := "", byteOffset := 48 }], 6, 56, [Value.string ⟨#[]⟩, Value.int IntKind.i64 0, Value.int IntKind.i64 0, Value.int IntKind.i64 0, Value.int IntKind.i64 0, Value.int IntKind.i64 0]⟩
theorem tiok99 : TIok Tryz.prog 99 ti99 := tiOf Tryz.underlying99 Tryz.type99 rfl
def ti100 : TI := ⟨TypeDesc.struct #[{ name := "Name", type := 9, offset := 0, embedded := false, tag := "", pkgPath := "", byteOffset := 0 }, { name := "X", type := 3, offset := 1, embedded := false, tag := "", pkgPath := "", byteOffset := 16 }, { name := "Y", type := 3, offset := 2, embedded := false, tag := "", pkgPath := "", byteOffset := 24 }, { name := "Height", type := 3, offset := 3, embedded := false, tag := "", pkgPath := "", byteOffset := 32 }, { name := "DX", type := 3, offset := 4, embedded := false, tag := "", pkgPath := "", byteOffset := 40 }, { name := "DY", type := 3, offset := 5, embedded := false, tag := "", pkgPath := "", byteOffset := 48 }], 6, 56, [Value.string ⟨#[]⟩, Value.int IntKind.i64 0, Value.int IntKind.i64 0, Value.int IntKind.i64 0, Value.int IntKind.i64 0, Value.int IntKind.i64 0]⟩
theorem tiok100 : TIok Tryz.prog 100 ti100 := tiOf Tryz.underlying100 Tryz.type100 rfl
def ti101 : TI := ⟨TypeDesc.func #[95] #[4] false, 1, 8, [Value.nilFunc]⟩
theorem tiok101 : TIok Tryz.prog 101 ti101 := tiOf Tryz.underlying101 Tryz.type101 rfl
def ti102 : TI := ⟨TypeDesc.func #[57] #[4] false, 1, 8, [Value.nilFunc]⟩
theorem tiok102 : TIok Tryz.prog 102 ti102 := tiOf Tryz.underlying102 Tryz.type102 rfl
def ti103 : TI := ⟨TypeDesc.func #[27, 3, 3] #[32] false, 1, 8, [Value.nilFunc]⟩
theorem tiok103 : TIok Tryz.prog 103 ti103 := tiOf Tryz.underlying103 Tryz.type103 rfl
def ti104 : TI := ⟨TypeDesc.func #[100, 57, 106] #[4] false, 1, 8, [Value.nilFunc]⟩
theorem tiok104 : TIok Tryz.prog 104 ti104 := tiOf Tryz.underlying104 Tryz.type104 rfl
def ti105 : TI := ⟨TypeDesc.struct #[{ name := "x", type := 3, offset := 0, embedded := false, tag := "", pkgPath := "linkboy/linkboyref03", byteOffset := 0 }, { name := "y", type := 3, offset := 1, embedded := false, tag := "", pkgPath := "linkboy/linkboyref03", byteOffset := 8 }], 2, 16, [Value.int IntKind.i64 0, Value.int IntKind.i64 0]⟩
theorem tiok105 : TIok Tryz.prog 105 ti105 := tiOf Tryz.underlying105 Tryz.type105 rfl
def ti106 : TI := ⟨TypeDesc.struct #[{ name := "x", type := 3, offset := 0, embedded := false, tag := "", pkgPath := "linkboy/linkboyref03", byteOffset := 0 }, { name := "y", type := 3, offset := 1, embedded := false, tag := "", pkgPath := "linkboy/linkboyref03", byteOffset := 8 }], 2, 16, [Value.int IntKind.i64 0, Value.int IntKind.i64 0]⟩
theorem tiok106 : TIok Tryz.prog 106 ti106 := tiOf Tryz.underlying106 Tryz.type106 rfl
def ti107 : TI := ⟨TypeDesc.func #[29] #[4] false, 1, 8, [Value.nilFunc]⟩
theorem tiok107 : TIok Tryz.prog 107 ti107 := tiOf Tryz.underlying107 Tryz.type107 rfl
def ti108 : TI := ⟨TypeDesc.array 4 95, 8, 64, [Value.int IntKind.i64 0, Value.int IntKind.i64 0, Value.int IntKind.i64 0, Value.int IntKind.i64 0, Value.int IntKind.i64 0, Value.int IntKind.i64 0, Value.int IntKind.i64 0, Value.int IntKind.i64 0]⟩
theorem tiok108 : TIok Tryz.prog 108 ti108 := tiOf Tryz.underlying108 Tryz.type108 rfl
def ti109 : TI := ⟨TypeDesc.func #[29] #[108] false, 1, 8, [Value.nilFunc]⟩
theorem tiok109 : TIok Tryz.prog 109 ti109 := tiOf Tryz.underlying109 Tryz.type109 rfl
def ti110 : TI := ⟨TypeDesc.func #[111, 101] #[4] false, 1, 8, [Value.nilFunc]⟩
theorem tiok110 : TIok Tryz.prog 110 ti110 := tiOf Tryz.underlying110 Tryz.type110 rfl
def ti111 : TI := ⟨TypeDesc.slice 95, 1, 24, [Value.slice none 0 0]⟩
theorem tiok111 : TIok Tryz.prog 111 ti111 := tiOf Tryz.underlying111 Tryz.type111 rfl
def ti112 : TI := ⟨TypeDesc.array 4 106, 8, 64, [Value.int IntKind.i64 0, Value.int IntKind.i64 0, Value.int IntKind.i64 0, Value.int IntKind.i64 0, Value.int IntKind.i64 0, Value.int IntKind.i64 0, Value.int IntKind.i64 0, Value.int IntKind.i64 0]⟩
theorem tiok112 : TIok Tryz.prog 112 ti112 := tiOf Tryz.underlying112 Tryz.type112 rfl
def ti113 : TI := ⟨TypeDesc.func #[29] #[112] false, 1, 8, [Value.nilFunc]⟩
theorem tiok113 : TIok Tryz.prog 113 ti113 := tiOf Tryz.underlying113 Tryz.type113 rfl
def ti114 : TI := ⟨TypeDesc.func #[100, 57, 29] #[4] false, 1, 8, [Value.nilFunc]⟩
theorem tiok114 : TIok Tryz.prog 114 ti114 := tiOf Tryz.underlying114 Tryz.type114 rfl
def ti115 : TI := ⟨TypeDesc.func #[54, 29] #[3] false, 1, 8, [Value.nilFunc]⟩
theorem tiok115 : TIok Tryz.prog 115 ti115 := tiOf Tryz.underlying115 Tryz.type115 rfl
def ti116 : TI := ⟨TypeDesc.func #[22, 117] #[3, 32] false, 1, 8, [Value.nilFunc]⟩
theorem tiok116 : TIok Tryz.prog 116 ti116 := tiOf Tryz.underlying116 Tryz.type116 rfl
def ti117 : TI := ⟨TypeDesc.func #[22, 54] #[32] false, 1, 8, [Value.nilFunc]⟩
theorem tiok117 : TIok Tryz.prog 117 ti117 := tiOf Tryz.underlying117 Tryz.type117 rfl
def ti118 : TI := ⟨TypeDesc.func #[23, 119] #[3, 32] false, 1, 8, [Value.nilFunc]⟩
theorem tiok118 : TIok Tryz.prog 118 ti118 := tiOf Tryz.underlying118 Tryz.type118 rfl
def ti119 : TI := ⟨TypeDesc.func #[23, 57] #[32] false, 1, 8, [Value.nilFunc]⟩
theorem tiok119 : TIok Tryz.prog 119 ti119 := tiOf Tryz.underlying119 Tryz.type119 rfl
def ti120 : TI := ⟨TypeDesc.func #[24, 124] #[3, 32] false, 1, 8, [Value.nilFunc]⟩
theorem tiok120 : TIok Tryz.prog 120 ti120 := tiOf Tryz.underlying120 Tryz.type120 rfl
def ti121 : TI := ⟨TypeDesc.slice 137, 1, 24, [Value.slice none 0 0]⟩
theorem tiok121 : TIok Tryz.prog 121 ti121 := tiOf Tryz.underlying121 Tryz.type121 rfl
def ti122 : TI := ⟨TypeDesc.struct #[{ name := "A", type := 72, offset := 0, embedded := false, tag := "", pkgPath := "", byteOffset := 0 }, { name := "B", type := 72, offset := 2, embedded := false, tag := "", pkgPath := "", byteOffset := 16 }, { name := "Windows", type := 121, offset := 4, embedded := false, tag := "", pkgPath := "", byteOffset := 32 }], 5, 56, [Value.int IntKind.i64 0, Value.int IntKind.i64 0, Value.int IntKind.i64 0, Value.int IntKind.i64 0, Value.slice none 0 0]⟩
theorem tiok122 : TIok Tryz.prog 122 ti122 := tiOf Tryz.underlying122 Tryz.type122 rfl
def ti123 : TI := ⟨TypeDesc.struct #[{ name := "A", type := 72, offset := 0, embedded := false, tag := "", pkgPath := "", byteOffset := 0 }, { name := "B", type := 72, offset := 2, embedded := false, tag := "", pkgPath := "", byteOffset := 16 }, { name := "Windows", type := 121, offset := 4, embedded := false, tag := "", pkgPath := "", byteOffset := 32 }], 5, 56, [Value.int IntKind.i64 0, Value.int IntKind.i64 0, Value.int IntKind.i64 0, Value.int IntKind.i64 0, Value.slice none 0 0]⟩
theorem tiok123 : TIok Tryz.prog 123 ti123 := tiOf Tryz.underlying123 Tryz.type123 rfl
def ti124 : TI := ⟨TypeDesc.func #[24, 123] #[32] false, 1, 8, [Value.nilFunc]⟩
theorem tiok124 : TIok Tryz.prog 124 ti124 := tiOf Tryz.underlying124 Tryz.type124 rfl
def ti125 : TI := ⟨TypeDesc.func #[25, 126] #[3, 32] false, 1, 8, [Value.nilFunc]⟩
theorem tiok125 : TIok Tryz.prog 125 ti125 := tiOf Tryz.underlying125 Tryz.type125 rfl
def ti126 : TI := ⟨TypeDesc.func #[25, 100] #[32] false, 1, 8, [Value.nilFunc]⟩
theorem tiok126 : TIok Tryz.prog 126 ti126 := tiOf Tryz.underlying126 Tryz.type126 rfl
def ti127 : TI := ⟨TypeDesc.func #[27, 3] #[32] false, 1, 8, [Value.nilFunc]⟩
theorem tiok127 : TIok Tryz.prog 127 ti127 := tiOf Tryz.underlying127 Tryz.type127 rfl
def ti128 : TI := ⟨TypeDesc.func #[3, 3, 3] #[4] false, 1, 8, [Value.nilFunc]⟩
theorem tiok128 : TIok Tryz.prog 128 ti128 := tiOf Tryz.underlying128 Tryz.type128 rfl
def ti129 : TI := ⟨TypeDesc.func #[123] #[32] false, 1, 8, [Value.nilFunc]⟩
theorem tiok129 : TIok Tryz.prog 129 ti129 := tiOf Tryz.underlying129 Tryz.type129 rfl
def ti130 : TI := ⟨TypeDesc.func #[54, 3, 3] #[4] false, 1, 8, [Value.nilFunc]⟩
theorem tiok130 : TIok Tryz.prog 130 ti130 := tiOf Tryz.underlying130 Tryz.type130 rfl
def ti131 : TI := ⟨TypeDesc.func #[60, 72] #[72] false, 1, 8, [Value.nilFunc]⟩
theorem tiok131 : TIok Tryz.prog 131 ti131 := tiOf Tryz.underlying131 Tryz.type131 rfl
def ti132 : TI := ⟨TypeDesc.struct #[{ name := "a", type := 95, offset := 0, embedded := false, tag := "", pkgPath := "linkboy/road", byteOffset := 0 }, { name := "b", type := 95, offset := 2, embedded := false, tag := "", pkgPath := "linkboy/road", byteOffset := 16 }], 4, 32, [Value.int IntKind.i64 0, Value.int IntKind.i64 0, Value.int IntKind.i64 0, Value.int IntKind.i64 0]⟩
theorem tiok132 : TIok Tryz.prog 132 ti132 := tiOf Tryz.underlying132 Tryz.type132 rfl
def ti133 : TI := ⟨TypeDesc.struct #[{ name := "a", type := 95, offset := 0, embedded := false, tag := "", pkgPath := "linkboy/road", byteOffset := 0 }, { name := "b", type := 95, offset := 2, embedded := false, tag := "", pkgPath := "linkboy/road", byteOffset := 16 }], 4, 32, [Value.int IntKind.i64 0, Value.int IntKind.i64 0, Value.int IntKind.i64 0, Value.int IntKind.i64 0]⟩
theorem tiok133 : TIok Tryz.prog 133 ti133 := tiOf Tryz.underlying133 Tryz.type133 rfl
def ti134 : TI := ⟨TypeDesc.func #[95] #[3] false, 1, 8, [Value.nilFunc]⟩
theorem tiok134 : TIok Tryz.prog 134 ti134 := tiOf Tryz.underlying134 Tryz.type134 rfl
def ti135 : TI := ⟨TypeDesc.func #[106, 106] #[3] false, 1, 8, [Value.nilFunc]⟩
theorem tiok135 : TIok Tryz.prog 135 ti135 := tiOf Tryz.underlying135 Tryz.type135 rfl
def ti136 : TI := ⟨TypeDesc.struct #[{ name := "From", type := 3, offset := 0, embedded := false, tag := "", pkgPath := "", byteOffset := 0 }, { name := "To", type := 3, offset := 1, embedded := false, tag := "", pkgPath := "", byteOffset := 8 }, { name := "Low", type := 3, offset := 2, embedded := false, tag := "", pkgPath := "", byteOffset := 16 }, { name := "High", type := 3, offset := 3, embedded := false, tag := "", pkgPath := "", byteOffset := 24 }], 4, 32, [Value.int IntKind.i64 0, Value.int IntKind.i64 0, Value.int IntKind.i64 0, Value.int IntKind.i64 0]⟩
theorem tiok136 : TIok Tryz.prog 136 ti136 := tiOf Tryz.underlying136 Tryz.type136 rfl
def ti137 : TI := ⟨TypeDesc.struct #[{ name := "From", type := 3, offset := 0, embedded := false, tag := "", pkgPath := "", byteOffset := 0 }, { name := "To", type := 3, offset := 1, embedded := false, tag := "", pkgPath := "", byteOffset := 8 }, { name := "Low", type := 3, offset := 2, embedded := false, tag := "", pkgPath := "", byteOffset := 16 }, { name := "High", type := 3, offset := 3, embedded := false, tag := "", pkgPath := "", byteOffset := 24 }], 4, 32, [Value.int IntKind.i64 0, Value.int IntKind.i64 0, Value.int IntKind.i64 0, Value.int IntKind.i64 0]⟩
theorem tiok137 : TIok Tryz.prog 137 ti137 := tiOf Tryz.underlying137 Tryz.type137 rfl
def ti138 : TI := ⟨TypeDesc.func #[3, 3] #[3] false, 1, 8, [Value.nilFunc]⟩
theorem tiok138 : TIok Tryz.prog 138 ti138 := tiOf Tryz.underlying138 Tryz.type138 rfl
def ti139 : TI := ⟨TypeDesc.func #[3, 3] #[3, 3] false, 1, 8, [Value.nilFunc]⟩
theorem tiok139 : TIok Tryz.prog 139 ti139 := tiOf Tryz.underlying139 Tryz.type139 rfl
def ti140 : TI := ⟨TypeDesc.func #[3, 3, 3, 3] #[3, 3] false, 1, 8, [Value.nilFunc]⟩
theorem tiok140 : TIok Tryz.prog 140 ti140 := tiOf Tryz.underlying140 Tryz.type140 rfl
def ti141 : TI := ⟨TypeDesc.func #[184] #[] false, 1, 8, [Value.nilFunc]⟩
theorem tiok141 : TIok Tryz.prog 141 ti141 := tiOf Tryz.underlying141 Tryz.type141 rfl
def ti142 : TI := ⟨TypeDesc.func #[184] #[] false, 1, 8, [Value.nilFunc]⟩
theorem tiok142 : TIok Tryz.prog 142 ti142 := tiOf Tryz.underlying142 Tryz.type142 rfl
def ti143 : TI := ⟨TypeDesc.func #[54] #[142] false, 1, 8, [Value.nilFunc]⟩
theorem tiok143 : TIok Tryz.prog 143 ti143 := tiOf Tryz.underlying143 Tryz.type143 rfl
def ti144 : TI := ⟨TypeDesc.struct #[{ name := "line", type := 133, offset := 0, embedded := true, tag := "", pkgPath := "linkboy/road", byteOffset := 0 }, { name := "width", type := 3, offset := 4, embedded := false, tag := "", pkgPath := "linkboy/road", byteOffset := 32 }], 5, 40, [Value.int IntKind.i64 0, Value.int IntKind.i64 0, Value.int IntKind.i64 0, Value.int IntKind.i64 0, Value.int IntKind.i64 0]⟩
theorem tiok144 : TIok Tryz.prog 144 ti144 := tiOf Tryz.underlying144 Tryz.type144 rfl
def ti145 : TI := ⟨TypeDesc.struct #[{ name := "line", type := 133, offset := 0, embedded := true, tag := "", pkgPath := "linkboy/road", byteOffset := 0 }, { name := "width", type := 3, offset := 4, embedded := false, tag := "", pkgPath := "linkboy/road", byteOffset := 32 }], 5, 40, [Value.int IntKind.i64 0, Value.int IntKind.i64 0, Value.int IntKind.i64 0, Value.int IntKind.i64 0, Value.int IntKind.i64 0]⟩
theorem tiok145 : TIok Tryz.prog 145 ti145 := tiOf Tryz.underlying145 Tryz.type145 rfl
def ti146 : TI := ⟨TypeDesc.func #[95] #[95] false, 1, 8, [Value.nilFunc]⟩
theorem tiok146 : TIok Tryz.prog 146 ti146 := tiOf Tryz.underlying146 Tryz.type146 rfl
def ti147 : TI := ⟨TypeDesc.func #[54, 3] #[3, 3] false, 1, 8, [Value.nilFunc]⟩
theorem tiok147 : TIok Tryz.prog 147 ti147 := tiOf Tryz.underlying147 Tryz.type147 rfl
def ti148 : TI := ⟨TypeDesc.func #[54] #[4] false, 1, 8, [Value.nilFunc]⟩
theorem tiok148 : TIok Tryz.prog 148 ti148 := tiOf Tryz.underlying148 Tryz.type148 rfl
def ti149 : TI := ⟨TypeDesc.func #[22, 148] #[4] false, 1, 8, [Value.nilFunc]⟩
theorem tiok149 : TIok Tryz.prog 149 ti149 := tiOf Tryz.underlying149 Tryz.type149 rfl
def ti150 : TI := ⟨TypeDesc.func #[27] #[32] false, 1, 8, [Value.nilFunc]⟩
theorem tiok150 : TIok Tryz.prog 150 ti150 := tiOf Tryz.underlying150 Tryz.type150 rfl
def ti151 : TI := ⟨TypeDesc.func #[106, 106] #[106] false, 1, 8, [Value.nilFunc]⟩
theorem tiok151 : TIok Tryz.prog 151 ti151 := tiOf Tryz.underlying151 Tryz.type151 rfl
def ti153 : TI := ⟨TypeDesc.func #[83, 155] #[] false, 1, 8, [Value.nilFunc]⟩
theorem tiok153 : TIok Tryz.prog 153 ti153 := tiOf Tryz.underlying153 Tryz.type153 rfl
def ti154 : TI := ⟨TypeDesc.func #[73] #[3] true, 1, 8, [Value.nilFunc]⟩
theorem tiok154 : TIok Tryz.prog 154 ti154 := tiOf Tryz.underlying154 Tryz.type154 rfl
def ti155 : TI := ⟨TypeDesc.func #[87, 87] #[3] false, 1, 8, [Value.nilFunc]⟩
theorem tiok155 : TIok Tryz.prog 155 ti155 := tiOf Tryz.underlying155 Tryz.type155 rfl
def ti156 : TI := ⟨TypeDesc.func #[27, 72] #[73] false, 1, 8, [Value.nilFunc]⟩
theorem tiok156 : TIok Tryz.prog 156 ti156 := tiOf Tryz.underlying156 Tryz.type156 rfl
def ti157 : TI := ⟨TypeDesc.func #[73, 158] #[4] false, 1, 8, [Value.nilFunc]⟩
theorem tiok157 : TIok Tryz.prog 157 ti157 := tiOf Tryz.underlying157 Tryz.type157 rfl
def ti158 : TI := ⟨TypeDesc.func #[3] #[4] false, 1, 8, [Value.nilFunc]⟩
theorem tiok158 : TIok Tryz.prog 158 ti158 := tiOf Tryz.underlying158 Tryz.type158 rfl
def ti159 : TI := ⟨TypeDesc.func #[3] #[95] false, 1, 8, [Value.nilFunc]⟩
theorem tiok159 : TIok Tryz.prog 159 ti159 := tiOf Tryz.underlying159 Tryz.type159 rfl
def ti160 : TI := ⟨TypeDesc.func #[95, 3] #[95] false, 1, 8, [Value.nilFunc]⟩
theorem tiok160 : TIok Tryz.prog 160 ti160 := tiOf Tryz.underlying160 Tryz.type160 rfl
def ti161 : TI := ⟨TypeDesc.func #[95, 3] #[4] false, 1, 8, [Value.nilFunc]⟩
theorem tiok161 : TIok Tryz.prog 161 ti161 := tiOf Tryz.underlying161 Tryz.type161 rfl
def ti162 : TI := ⟨TypeDesc.func #[100, 57] #[3, 3, 4] false, 1, 8, [Value.nilFunc]⟩
theorem tiok162 : TIok Tryz.prog 162 ti162 := tiOf Tryz.underlying162 Tryz.type162 rfl
def ti164 : TI := ⟨TypeDesc.func #[100, 57] #[106, 3] false, 1, 8, [Value.nilFunc]⟩
theorem tiok164 : TIok Tryz.prog 164 ti164 := tiOf Tryz.underlying164 Tryz.type164 rfl
def ti165 : TI := ⟨TypeDesc.func #[106, 106, 106, 3] #[4] false, 1, 8, [Value.nilFunc]⟩
theorem tiok165 : TIok Tryz.prog 165 ti165 := tiOf Tryz.underlying165 Tryz.type165 rfl
def ti166 : TI := ⟨TypeDesc.func #[100, 106, 3] #[106] false, 1, 8, [Value.nilFunc]⟩
theorem tiok166 : TIok Tryz.prog 166 ti166 := tiOf Tryz.underlying166 Tryz.type166 rfl
def ti167 : TI := ⟨TypeDesc.func #[111, 101] #[3] false, 1, 8, [Value.nilFunc]⟩
theorem tiok167 : TIok Tryz.prog 167 ti167 := tiOf Tryz.underlying167 Tryz.type167 rfl
def ti168 : TI := ⟨TypeDesc.func #[111] #[111] false, 1, 8, [Value.nilFunc]⟩
theorem tiok168 : TIok Tryz.prog 168 ti168 := tiOf Tryz.underlying168 Tryz.type168 rfl
def ti169 : TI := ⟨TypeDesc.slice 106, 1, 24, [Value.slice none 0 0]⟩
theorem tiok169 : TIok Tryz.prog 169 ti169 := tiOf Tryz.underlying169 Tryz.type169 rfl
def ti170 : TI := ⟨TypeDesc.func #[106, 106, 106, 106] #[4] false, 1, 8, [Value.nilFunc]⟩
theorem tiok170 : TIok Tryz.prog 170 ti170 := tiOf Tryz.underlying170 Tryz.type170 rfl
def ti171 : TI := ⟨TypeDesc.func #[29] #[3] false, 1, 8, [Value.nilFunc]⟩
theorem tiok171 : TIok Tryz.prog 171 ti171 := tiOf Tryz.underlying171 Tryz.type171 rfl
def ti172 : TI := ⟨TypeDesc.func #[72] #[4] false, 1, 8, [Value.nilFunc]⟩
theorem tiok172 : TIok Tryz.prog 172 ti172 := tiOf Tryz.underlying172 Tryz.type172 rfl
def ti173 : TI := ⟨TypeDesc.func #[9] #[4] false, 1, 8, [Value.nilFunc]⟩
theorem tiok173 : TIok Tryz.prog 173 ti173 := tiOf Tryz.underlying173 Tryz.type173 rfl
def ti174 : TI := ⟨TypeDesc.func #[52, 172] #[4] false, 1, 8, [Value.nilFunc]⟩
theorem tiok174 : TIok Tryz.prog 174 ti174 := tiOf Tryz.underlying174 Tryz.type174 rfl
def ti175 : TI := ⟨TypeDesc.func #[52] #[52] false, 1, 8, [Value.nilFunc]⟩
theorem tiok175 : TIok Tryz.prog 175 ti175 := tiOf Tryz.underlying175 Tryz.type175 rfl
def ti176 : TI := ⟨TypeDesc.func #[137] #[4] false, 1, 8, [Value.nilFunc]⟩
theorem tiok176 : TIok Tryz.prog 176 ti176 := tiOf Tryz.underlying176 Tryz.type176 rfl
def ti177 : TI := ⟨TypeDesc.func #[121, 176] #[4] false, 1, 8, [Value.nilFunc]⟩
theorem tiok177 : TIok Tryz.prog 177 ti177 := tiOf Tryz.underlying177 Tryz.type177 rfl
def ti178 : TI := ⟨TypeDesc.func #[100] #[4] false, 1, 8, [Value.nilFunc]⟩
theorem tiok178 : TIok Tryz.prog 178 ti178 := tiOf Tryz.underlying178 Tryz.type178 rfl
def ti179 : TI := ⟨TypeDesc.func #[25, 178] #[4] false, 1, 8, [Value.nilFunc]⟩
theorem tiok179 : TIok Tryz.prog 179 ti179 := tiOf Tryz.underlying179 Tryz.type179 rfl
def ti180 : TI := ⟨TypeDesc.func #[3, 3] #[4] false, 1, 8, [Value.nilFunc]⟩
theorem tiok180 : TIok Tryz.prog 180 ti180 := tiOf Tryz.underlying180 Tryz.type180 rfl
def ti181 : TI := ⟨TypeDesc.func #[54, 3, 106] #[4] false, 1, 8, [Value.nilFunc]⟩
theorem tiok181 : TIok Tryz.prog 181 ti181 := tiOf Tryz.underlying181 Tryz.type181 rfl
def ti182 : TI := ⟨TypeDesc.func #[3, 3] #[106] false, 1, 8, [Value.nilFunc]⟩
theorem tiok182 : TIok Tryz.prog 182 ti182 := tiOf Tryz.underlying182 Tryz.type182 rfl
def ti183 : TI := ⟨TypeDesc.func #[54, 3, 29] #[4] false, 1, 8, [Value.nilFunc]⟩
theorem tiok183 : TIok Tryz.prog 183 ti183 := tiOf Tryz.underlying183 Tryz.type183 rfl
def ti184 : TI := ⟨TypeDesc.func #[145] #[4] false, 1, 8, [Value.nilFunc]⟩
theorem tiok184 : TIok Tryz.prog 184 ti184 := tiOf Tryz.underlying184 Tryz.type184 rfl
def ti185 : TI := ⟨TypeDesc.func #[22, 148] #[3] false, 1, 8, [Value.nilFunc]⟩
theorem tiok185 : TIok Tryz.prog 185 ti185 := tiOf Tryz.underlying185 Tryz.type185 rfl
def ti186 : TI := ⟨TypeDesc.func #[83, 3, 3, 3, 155] #[] false, 1, 8, [Value.nilFunc]⟩
theorem tiok186 : TIok Tryz.prog 186 ti186 := tiOf Tryz.underlying186 Tryz.type186 rfl
def ti187 : TI := ⟨TypeDesc.func #[188] #[3] false, 1, 8, [Value.nilFunc]⟩
theorem tiok187 : TIok Tryz.prog 187 ti187 := tiOf Tryz.underlying187 Tryz.type187 rfl
def ti188 : TI := ⟨TypeDesc.int IntKind.u64, 1, 8, [Value.int IntKind.u64 0]⟩
theorem tiok188 : TIok Tryz.prog 188 ti188 := tiOf Tryz.underlying188 Tryz.type188 rfl
def ti189 : TI := ⟨TypeDesc.func #[73, 158] #[3] false, 1, 8, [Value.nilFunc]⟩
theorem tiok189 : TIok Tryz.prog 189 ti189 := tiOf Tryz.underlying189 Tryz.type189 rfl
def ti190 : TI := ⟨TypeDesc.int IntKind.u64, 1, 8, [Value.int IntKind.u64 0]⟩
theorem tiok190 : TIok Tryz.prog 190 ti190 := tiOf Tryz.underlying190 Tryz.type190 rfl
def ti191 : TI := ⟨TypeDesc.struct #[{ name := "hi", type := 190, offset := 0, embedded := false, tag := "", pkgPath := "linkboy/road", byteOffset := 0 }, { name := "lo", type := 190, offset := 1, embedded := false, tag := "", pkgPath := "linkboy/road", byteOffset := 8 }], 2, 16, [Value.int IntKind.u64 0, Value.int IntKind.u64 0]⟩
theorem tiok191 : TIok Tryz.prog 191 ti191 := tiOf Tryz.underlying191 Tryz.type191 rfl
def ti192 : TI := ⟨TypeDesc.struct #[{ name := "hi", type := 190, offset := 0, embedded := false, tag := "", pkgPath := "linkboy/road", byteOffset := 0 }, { name := "lo", type := 190, offset := 1, embedded := false, tag := "", pkgPath := "linkboy/road", byteOffset := 8 }], 2, 16, [Value.int IntKind.u64 0, Value.int IntKind.u64 0]⟩
theorem tiok192 : TIok Tryz.prog 192 ti192 := tiOf Tryz.underlying192 Tryz.type192 rfl
def ti193 : TI := ⟨TypeDesc.func #[3, 3] #[192] false, 1, 8, [Value.nilFunc]⟩
theorem tiok193 : TIok Tryz.prog 193 ti193 := tiOf Tryz.underlying193 Tryz.type193 rfl
def ti194 : TI := ⟨TypeDesc.func #[192] #[4] false, 1, 8, [Value.nilFunc]⟩
theorem tiok194 : TIok Tryz.prog 194 ti194 := tiOf Tryz.underlying194 Tryz.type194 rfl
def ti195 : TI := ⟨TypeDesc.func #[3] #[3] false, 1, 8, [Value.nilFunc]⟩
theorem tiok195 : TIok Tryz.prog 195 ti195 := tiOf Tryz.underlying195 Tryz.type195 rfl
def ti196 : TI := ⟨TypeDesc.func #[198, 198] #[4] false, 1, 8, [Value.nilFunc]⟩
theorem tiok196 : TIok Tryz.prog 196 ti196 := tiOf Tryz.underlying196 Tryz.type196 rfl
def ti197 : TI := ⟨TypeDesc.struct #[{ name := "high", type := 190, offset := 0, embedded := false, tag := "", pkgPath := "linkboy/linkboyref03", byteOffset := 0 }, { name := "low", type := 190, offset := 1, embedded := false, tag := "", pkgPath := "linkboy/linkboyref03", byteOffset := 8 }], 2, 16, [Value.int IntKind.u64 0, Value.int IntKind.u64 0]⟩
theorem tiok197 : TIok Tryz.prog 197 ti197 := tiOf Tryz.underlying197 Tryz.type197 rfl
def ti198 : TI := ⟨TypeDesc.struct #[{ name := "high", type := 190, offset := 0, embedded := false, tag := "", pkgPath := "linkboy/linkboyref03", byteOffset := 0 }, { name := "low", type := 190, offset := 1, embedded := false, tag := "", pkgPath := "linkboy/linkboyref03", byteOffset := 8 }], 2, 16, [Value.int IntKind.u64 0, Value.int IntKind.u64 0]⟩
theorem tiok198 : TIok Tryz.prog 198 ti198 := tiOf Tryz.underlying198 Tryz.type198 rfl
def ti199 : TI := ⟨TypeDesc.func #[3, 3] #[198] false, 1, 8, [Value.nilFunc]⟩
theorem tiok199 : TIok Tryz.prog 199 ti199 := tiOf Tryz.underlying199 Tryz.type199 rfl
def ti200 : TI := ⟨TypeDesc.func #[111, 201] #[] false, 1, 8, [Value.nilFunc]⟩
theorem tiok200 : TIok Tryz.prog 200 ti200 := tiOf Tryz.underlying200 Tryz.type200 rfl
def ti201 : TI := ⟨TypeDesc.func #[95, 95] #[3] false, 1, 8, [Value.nilFunc]⟩
theorem tiok201 : TIok Tryz.prog 201 ti201 := tiOf Tryz.underlying201 Tryz.type201 rfl
def ti202 : TI := ⟨TypeDesc.func #[111] #[] false, 1, 8, [Value.nilFunc]⟩
theorem tiok202 : TIok Tryz.prog 202 ti202 := tiOf Tryz.underlying202 Tryz.type202 rfl
def ti203 : TI := ⟨TypeDesc.array 2 95, 4, 32, [Value.int IntKind.i64 0, Value.int IntKind.i64 0, Value.int IntKind.i64 0, Value.int IntKind.i64 0]⟩
theorem tiok203 : TIok Tryz.prog 203 ti203 := tiOf Tryz.underlying203 Tryz.type203 rfl
def ti204 : TI := ⟨TypeDesc.func #[9, 9] #[9] false, 1, 8, [Value.nilFunc]⟩
theorem tiok204 : TIok Tryz.prog 204 ti204 := tiOf Tryz.underlying204 Tryz.type204 rfl
def ti205 : TI := ⟨TypeDesc.func #[52, 172] #[3] false, 1, 8, [Value.nilFunc]⟩
theorem tiok205 : TIok Tryz.prog 205 ti205 := tiOf Tryz.underlying205 Tryz.type205 rfl
def ti206 : TI := ⟨TypeDesc.func #[121, 176] #[3] false, 1, 8, [Value.nilFunc]⟩
theorem tiok206 : TIok Tryz.prog 206 ti206 := tiOf Tryz.underlying206 Tryz.type206 rfl
def ti207 : TI := ⟨TypeDesc.func #[25, 178] #[3] false, 1, 8, [Value.nilFunc]⟩
theorem tiok207 : TIok Tryz.prog 207 ti207 := tiOf Tryz.underlying207 Tryz.type207 rfl
def ti209 : TI := ⟨TypeDesc.func #[54, 3] #[106, 106] false, 1, 8, [Value.nilFunc]⟩
theorem tiok209 : TIok Tryz.prog 209 ti209 := tiOf Tryz.underlying209 Tryz.type209 rfl
def ti210 : TI := ⟨TypeDesc.array 2 106, 4, 32, [Value.int IntKind.i64 0, Value.int IntKind.i64 0, Value.int IntKind.i64 0, Value.int IntKind.i64 0]⟩
theorem tiok210 : TIok Tryz.prog 210 ti210 := tiOf Tryz.underlying210 Tryz.type210 rfl
def ti211 : TI := ⟨TypeDesc.func #[83, 3, 3, 155] #[] false, 1, 8, [Value.nilFunc]⟩
theorem tiok211 : TIok Tryz.prog 211 ti211 := tiOf Tryz.underlying211 Tryz.type211 rfl
def ti212 : TI := ⟨TypeDesc.int IntKind.i64, 1, 8, [Value.int IntKind.i64 0]⟩
theorem tiok212 : TIok Tryz.prog 212 ti212 := tiOf Tryz.underlying212 Tryz.type212 rfl
def ti214 : TI := ⟨TypeDesc.func #[83, 3, 3, 155] #[3, 212] false, 1, 8, [Value.nilFunc]⟩
theorem tiok214 : TIok Tryz.prog 214 ti214 := tiOf Tryz.underlying214 Tryz.type214 rfl
def ti215 : TI := ⟨TypeDesc.func #[83, 3, 3, 155] #[4] false, 1, 8, [Value.nilFunc]⟩
theorem tiok215 : TIok Tryz.prog 215 ti215 := tiOf Tryz.underlying215 Tryz.type215 rfl
def ti216 : TI := ⟨TypeDesc.func #[83, 3, 3, 3, 155] #[3] false, 1, 8, [Value.nilFunc]⟩
theorem tiok216 : TIok Tryz.prog 216 ti216 := tiOf Tryz.underlying216 Tryz.type216 rfl
def ti218 : TI := ⟨TypeDesc.func #[83, 3, 3, 3, 155] #[3, 4] false, 1, 8, [Value.nilFunc]⟩
theorem tiok218 : TIok Tryz.prog 218 ti218 := tiOf Tryz.underlying218 Tryz.type218 rfl
def ti219 : TI := ⟨TypeDesc.func #[220] #[3] false, 1, 8, [Value.nilFunc]⟩
theorem tiok219 : TIok Tryz.prog 219 ti219 := tiOf Tryz.underlying219 Tryz.type219 rfl
def ti220 : TI := ⟨TypeDesc.int IntKind.u32, 1, 4, [Value.int IntKind.u32 0]⟩
theorem tiok220 : TIok Tryz.prog 220 ti220 := tiOf Tryz.underlying220 Tryz.type220 rfl
def ti221 : TI := ⟨TypeDesc.func #[190] #[3] false, 1, 8, [Value.nilFunc]⟩
theorem tiok221 : TIok Tryz.prog 221 ti221 := tiOf Tryz.underlying221 Tryz.type221 rfl
def ti223 : TI := ⟨TypeDesc.func #[190, 190] #[190, 190] false, 1, 8, [Value.nilFunc]⟩
theorem tiok223 : TIok Tryz.prog 223 ti223 := tiOf Tryz.underlying223 Tryz.type223 rfl
def ti224 : TI := ⟨TypeDesc.func #[111, 3, 3, 3, 201] #[] false, 1, 8, [Value.nilFunc]⟩
theorem tiok224 : TIok Tryz.prog 224 ti224 := tiOf Tryz.underlying224 Tryz.type224 rfl
def ti225 : TI := ⟨TypeDesc.func #[9, 5] #[9] false, 1, 8, [Value.nilFunc]⟩
theorem tiok225 : TIok Tryz.prog 225 ti225 := tiOf Tryz.underlying225 Tryz.type225 rfl
def ti226 : TI := ⟨TypeDesc.array 256 4, 256, 256, [Value.bool false, Value.bool false, Value.bool false, Value.bool false, Value.bool false, Value.bool false, Value.bool false, Value.bool false, Value.bool false, Value.bool false, Value.bool false, Value.bool false, Value.bool false, Value.bool false, Value.bool false, Value.bool false, Value.bool false, Value.bool false, Value.bool false, Value.bool false, Value.bool false, Value.bool false, Value.bool false, Value.bool false, Value.bool false, Value.bool false, Value.bool false, Value.bool false, Value.bool false, Value.bool false, Value.bool false, Value.bool false, Value.bool false, Value.bool false, Value.bool false, Value.bool false, Value.bool false, Value.bool false, Value.bool false, Value.bool false, Value.bool false, Value.bool false, Value.bool false, Value.bool false, Value.bool false, Value.bool false, Value.bool false, Value.bool false, Value.bool false, Value.bool false, Value.bool false, Value.bool false, Value.bool false, Value.bool false, Value.bool false, Value.bool false, Value.bool false, Value.bool false, Value.bool false, Value.bool false, Value.bool false, Value.bool false, Value.bool false, Value.bool false, Value.bool false, Value.bool false, Value.bool false, Value.bool false, Value.bool false, Value.bool false, Value.bool false, Value.bool false, Value.bool false, Value.bool false, Value.bool false, Value.bool false, Value.bool false, Value.bool false, Value.bool false, Value.bool false, Value.bool false, Value.bool false, Value.bool false, Value.bool false, Value.bool false, Value.bool false, Value.bool false, Value.bool false, Value.bool false, Value.bool false, Value.bool false, Value.bool false, Value.bool false, Value.bool false, Value.bool false, Value.bool false, Value.bool false, Value.bool false, Value.bool false, Value.bool false, Value.bool false, Value.bool false, Value.bool false, Value.bool false, Value.bool false, Value.bool false, Value.bool false, Value.bool false, Value.bool false, Value.bool false, Value.bool false, Value.bool false, Value.bool false, Value.bool false, Value.bool false, Value.bool false, Value.bool false, Value.bool false, Value.bool false, Value.bool false, Value.bool false, Value.bool false, Value.bool false, Value.bool false, Value.bool false, Value.bool false, Value.bool false, Value.bool false, Value.bool false, Value.bool false, Value.bool false, Value.bool false, Value.bool false, Value.bool false, Value.bool false, Value.bool false, Value.bool false, Value.bool false, Value.bool false, Value.bool false, Value.bool false, Value.bool false, Value.bool false, Value.bool false, Value.bool false, Value.bool false, Value.bool false, Value.bool false, Value.bool false, Value.bool false, Value.bool false, Value.bool false, Value.bool false, Value.bool false, Value.bool false, Value.bool false, Value.bool false, Value.bool false, Value.bool false, Value.bool false, Value.bool false, Value.bool false, Value.bool false, Value.bool false, Value.bool false, Value.bool false, Value.bool false, Value.bool false, Value.bool false, Value.bool false, Value.bool false, Value.bool false, Value.bool false, Value.bool false, Value.bool false, Value.bool false, Value.bool false, Value.bool false, Value.bool false, Value.bool false, Value.bool false, Value.bool false, Value.bool false, Value.bool false, Value.bool false, Value.bool false, Value.bool false, Value.bool false, Value.bool false, Value.bool false, Value.bool false, Value.bool false, Value.bool false, Value.bool false, Value.bool false, Value.bool false, Value.bool false, Value.bool false, Value.bool false, Value.bool false, Value.bool false, Value.bool false, Value.bool false, Value.bool false, Value.bool false, Value.bool false, Value.bool false, Value.bool false, Value.bool false, Value.bool false, Value.bool false, Value.bool false, Value.bool false, Value.bool false, Value.bool false, Value.bool false, Value.bool false, Value.bool false, Value.bool false, Value.bool false, Value.bool false, Value.bool false, Value.bool false, Value.bool false, Value.bool false, Value.bool false, Value.bool false, Value.bool false, Value.bool false, Value.bool false, Value.bool false, Value.bool false, Value.bool false, Value.bool false, Value.bool false, Value.bool false, Value.bool false, Value.bool false, Value.bool false, Value.bool false, Value.bool false, Value.bool false, Value.bool false, Value.bool false, Value.bool false, Value.bool false, Value.bool false, Value.bool false, Value.bool false, Value.bool false, Value.bool false, Value.bool false, Value.bool false, Value.bool false, Value.bool false, Value.bool false]⟩
theorem tiok226 : TIok Tryz.prog 226 ti226 := tiOf Tryz.underlying226 Tryz.type226 rfl
def ti227 : TI := ⟨TypeDesc.array 256 4, 256, 256, [Value.bool false, Value.bool false, Value.bool false, Value.bool false, Value.bool false, Value.bool false, Value.bool false, Value.bool false, Value.bool false, Value.bool false, Value.bool false, Value.bool false, Value.bool false, Value.bool false, Value.bool false, Value.bool false, Value.bool false, Value.bool false, Value.bool false, Value.bool false, Value.bool false, Value.bool false, Value.bool false, Value.bool false, Value.bool false, Value.bool false, Value.bool false, Value.bool false, Value.bool false, Value.bool false, Value.bool false, Value.bool false, Value.bool false, Value.bool false, Value.bool false, Value.bool false, Value.bool false, Value.bool false, Value.bool false, Value.bool false, Value.bool false, Value.bool false, Value.bool false, Value.bool false, Value.bool false, Value.bool false, Value.bool false, Value.bool false, Value.bool false, Value.bool false, Value.bool false, Value.bool false, Value.bool false, Value.bool false, Value.bool false, Value.bool false, Value.bool false, Value.bool false, Value.bool false, Value.bool false, Value.bool false, Value.bool false, Value.bool false, Value.bool false, Value.bool false, Value.bool false, Value.bool false, Value.bool false, Value.bool false, Value.bool false, Value.bool false, Value.bool false, Value.bool false, Value.bool false, Value.bool false, Value.bool false, Value.bool false, Value.bool false, Value.bool false, Value.bool false, Value.bool false, Value.bool false, Value.bool false, Value.bool false, Value.bool false, Value.bool false, Value.bool false, Value.bool false, Value.bool false, Value.bool false, Value.bool false, Value.bool false, Value.bool false, Value.bool false, Value.bool false, Value.bool false, Value.bool false, Value.bool false, Value.bool false, Value.bool false, Value.bool false, Value.bool false, Value.bool false, Value.bool false, Value.bool false, Value.bool false, Value.bool false, Value.bool false, Value.bool false, Value.bool false, Value.bool false, Value.bool false, Value.bool false, Value.bool false, Value.bool false, Value.bool false, Value.bool false, Value.bool false, Value.bool false, Value.bool false, Value.bool false, Value.bool false, Value.bool false, Value.bool false, Value.bool false, Value.bool false, Value.bool false, Value.bool false, Value.bool false, Value.bool false, Value.bool false, Value.bool false, Value.bool false, Value.bool false, Value.bool false, Value.bool false, Value.bool false, Value.bool false, Value.bool false, Value.bool false, Value.bool false, Value.bool false, Value.bool false, Value.bool false, Value.bool false, Value.bool false, Value.bool false, Value.bool false, Value.bool false, Value.bool false, Value.bool false, Value.bool false, Value.bool false, Value.bool false, Value.bool false, Value.bool false, Value.bool false, Value.bool false, Value.bool false, Value.bool false, Value.bool false, Value.bool false, Value.bool false, Value.bool false, Value.bool false, Value.bool false, Value.bool false, Value.bool false, Value.bool false, Value.bool false, Value.bool false, Value.bool false, Value.bool false, Value.bool false, Value.bool false, Value.bool false, Value.bool false, Value.bool false, Value.bool false, Value.bool false, Value.bool false, Value.bool false, Value.bool false, Value.bool false, Value.bool false, Value.bool false, Value.bool false, Value.bool false, Value.bool false, Value.bool false, Value.bool false, Value.bool false, Value.bool false, Value.bool false, Value.bool false, Value.bool false, Value.bool false, Value.bool false, Value.bool false, Value.bool false, Value.bool false, Value.bool false, Value.bool false, Value.bool false, Value.bool false, Value.bool false, Value.bool false, Value.bool false, Value.bool false, Value.bool false, Value.bool false, Value.bool false, Value.bool false, Value.bool false, Value.bool false, Value.bool false, Value.bool false, Value.bool false, Value.bool false, Value.bool false, Value.bool false, Value.bool false, Value.bool false, Value.bool false, Value.bool false, Value.bool false, Value.bool false, Value.bool false, Value.bool false, Value.bool false, Value.bool false, Value.bool false, Value.bool false, Value.bool false, Value.bool false, Value.bool false, Value.bool false, Value.bool false, Value.bool false, Value.bool false, Value.bool false, Value.bool false, Value.bool false, Value.bool false, Value.bool false, Value.bool false, Value.bool false, Value.bool false, Value.bool false, Value.bool false, Value.bool false, Value.bool false, Value.bool false, Value.bool false, Value.bool false, Value.bool false]⟩
theorem tiok227 : TIok Tryz.prog 227 ti227 := tiOf Tryz.underlying227 Tryz.type227 rfl
def ti229 : TI := ⟨TypeDesc.func #[9] #[227, 4] false, 1, 8, [Value.nilFunc]⟩
theorem tiok229 : TIok Tryz.prog 229 ti229 := tiOf Tryz.underlying229 Tryz.type229 rfl
def ti230 : TI := ⟨TypeDesc.func #[9, 231] #[9] false, 1, 8, [Value.nilFunc]⟩
theorem tiok230 : TIok Tryz.prog 230 ti230 := tiOf Tryz.underlying230 Tryz.type230 rfl
def ti232 : TI := ⟨TypeDesc.func #[106, 106, 106] #[4] false, 1, 8, [Value.nilFunc]⟩
theorem tiok232 : TIok Tryz.prog 232 ti232 := tiOf Tryz.underlying232 Tryz.type232 rfl
def ti233 : TI := ⟨TypeDesc.int IntKind.u64, 1, 8, [Value.int IntKind.u64 0]⟩
theorem tiok233 : TIok Tryz.prog 233 ti233 := tiOf Tryz.underlying233 Tryz.type233 rfl
def ti234 : TI := ⟨TypeDesc.func #[3] #[188] false, 1, 8, [Value.nilFunc]⟩
theorem tiok234 : TIok Tryz.prog 234 ti234 := tiOf Tryz.underlying234 Tryz.type234 rfl
def ti235 : TI := ⟨TypeDesc.func #[] #[190] false, 1, 8, [Value.nilFunc]⟩
theorem tiok235 : TIok Tryz.prog 235 ti235 := tiOf Tryz.underlying235 Tryz.type235 rfl
def ti236 : TI := ⟨TypeDesc.func #[83, 3, 237, 155] #[3] false, 1, 8, [Value.nilFunc]⟩
theorem tiok236 : TIok Tryz.prog 236 ti236 := tiOf Tryz.underlying236 Tryz.type236 rfl
def ti238 : TI := ⟨TypeDesc.func #[83, 3, 3, 3, 237, 155] #[3] false, 1, 8, [Value.nilFunc]⟩
theorem tiok238 : TIok Tryz.prog 238 ti238 := tiOf Tryz.underlying238 Tryz.type238 rfl
def ti239 : TI := ⟨TypeDesc.func #[111, 3, 3, 201] #[] false, 1, 8, [Value.nilFunc]⟩
theorem tiok239 : TIok Tryz.prog 239 ti239 := tiOf Tryz.underlying239 Tryz.type239 rfl
def ti240 : TI := ⟨TypeDesc.func #[111, 3, 3, 201] #[3, 212] false, 1, 8, [Value.nilFunc]⟩
theorem tiok240 : TIok Tryz.prog 240 ti240 := tiOf Tryz.underlying240 Tryz.type240 rfl
def ti241 : TI := ⟨TypeDesc.func #[111, 3, 3, 201] #[4] false, 1, 8, [Value.nilFunc]⟩
theorem tiok241 : TIok Tryz.prog 241 ti241 := tiOf Tryz.underlying241 Tryz.type241 rfl
def ti242 : TI := ⟨TypeDesc.func #[111, 3, 3, 3, 201] #[3] false, 1, 8, [Value.nilFunc]⟩
theorem tiok242 : TIok Tryz.prog 242 ti242 := tiOf Tryz.underlying242 Tryz.type242 rfl
def ti243 : TI := ⟨TypeDesc.func #[111, 3, 3, 3, 201] #[3, 4] false, 1, 8, [Value.nilFunc]⟩
theorem tiok243 : TIok Tryz.prog 243 ti243 := tiOf Tryz.underlying243 Tryz.type243 rfl
def ti244 : TI := ⟨TypeDesc.func #[5] #[4] false, 1, 8, [Value.nilFunc]⟩
theorem tiok244 : TIok Tryz.prog 244 ti244 := tiOf Tryz.underlying244 Tryz.type244 rfl
def ti246 : TI := ⟨TypeDesc.func #[9] #[21, 3] false, 1, 8, [Value.nilFunc]⟩
theorem tiok246 : TIok Tryz.prog 246 ti246 := tiOf Tryz.underlying246 Tryz.type246 rfl
def ti247 : TI := ⟨TypeDesc.func #[9, 21] #[4] false, 1, 8, [Value.nilFunc]⟩
theorem tiok247 : TIok Tryz.prog 247 ti247 := tiOf Tryz.underlying247 Tryz.type247 rfl
def ti249 : TI := ⟨TypeDesc.func #[83, 3, 3, 237, 155] #[3, 3] false, 1, 8, [Value.nilFunc]⟩
theorem tiok249 : TIok Tryz.prog 249 ti249 := tiOf Tryz.underlying249 Tryz.type249 rfl
def ti250 : TI := ⟨TypeDesc.func #[111, 3, 237, 201] #[3] false, 1, 8, [Value.nilFunc]⟩
theorem tiok250 : TIok Tryz.prog 250 ti250 := tiOf Tryz.underlying250 Tryz.type250 rfl
def ti251 : TI := ⟨TypeDesc.func #[111, 3, 3, 3, 237, 201] #[3] false, 1, 8, [Value.nilFunc]⟩
theorem tiok251 : TIok Tryz.prog 251 ti251 := tiOf Tryz.underlying251 Tryz.type251 rfl
def ti252 : TI := ⟨TypeDesc.func #[9, 21] #[3] false, 1, 8, [Value.nilFunc]⟩
theorem tiok252 : TIok Tryz.prog 252 ti252 := tiOf Tryz.underlying252 Tryz.type252 rfl
def ti253 : TI := ⟨TypeDesc.func #[111, 3, 3, 237, 201] #[3, 3] false, 1, 8, [Value.nilFunc]⟩
theorem tiok253 : TIok Tryz.prog 253 ti253 := tiOf Tryz.underlying253 Tryz.type253 rfl
def ti254 : TI := ⟨TypeDesc.array 256 5, 256, 256, [Value.int IntKind.u8 0, Value.int IntKind.u8 0, Value.int IntKind.u8 0, Value.int IntKind.u8 0, Value.int IntKind.u8 0, Value.int IntKind.u8 0, Value.int IntKind.u8 0, Value.int IntKind.u8 0, Value.int IntKind.u8 0, Value.int IntKind.u8 0, Value.int IntKind.u8 0, Value.int IntKind.u8 0, Value.int IntKind.u8 0, Value.int IntKind.u8 0, Value.int IntKind.u8 0, Value.int IntKind.u8 0, Value.int IntKind.u8 0, Value.int IntKind.u8 0, Value.int IntKind.u8 0, Value.int IntKind.u8 0, Value.int IntKind.u8 0, Value.int IntKind.u8 0, Value.int IntKind.u8 0, Value.int IntKind.u8 0, Value.int IntKind.u8 0, Value.int IntKind.u8 0, Value.int IntKind.u8 0, Value.int IntKind.u8 0, Value.int IntKind.u8 0, Value.int IntKind.u8 0, Value.int IntKind.u8 0, Value.int IntKind.u8 0, Value.int IntKind.u8 0, Value.int IntKind.u8 0, Value.int IntKind.u8 0, Value.int IntKind.u8 0, Value.int IntKind.u8 0, Value.int IntKind.u8 0, Value.int IntKind.u8 0, Value.int IntKind.u8 0, Value.int IntKind.u8 0, Value.int IntKind.u8 0, Value.int IntKind.u8 0, Value.int IntKind.u8 0, Value.int IntKind.u8 0, Value.int IntKind.u8 0, Value.int IntKind.u8 0, Value.int IntKind.u8 0, Value.int IntKind.u8 0, Value.int IntKind.u8 0, Value.int IntKind.u8 0, Value.int IntKind.u8 0, Value.int IntKind.u8 0, Value.int IntKind.u8 0, Value.int IntKind.u8 0, Value.int IntKind.u8 0, Value.int IntKind.u8 0, Value.int IntKind.u8 0, Value.int IntKind.u8 0, Value.int IntKind.u8 0, Value.int IntKind.u8 0, Value.int IntKind.u8 0, Value.int IntKind.u8 0, Value.int IntKind.u8 0, Value.int IntKind.u8 0, Value.int IntKind.u8 0, Value.int IntKind.u8 0, Value.int IntKind.u8 0, Value.int IntKind.u8 0, Value.int IntKind.u8 0, Value.int IntKind.u8 0, Value.int IntKind.u8 0, Value.int IntKind.u8 0, Value.int IntKind.u8 0, Value.int IntKind.u8 0, Value.int IntKind.u8 0, Value.int IntKind.u8 0, Value.int IntKind.u8 0, Value.int IntKind.u8 0, Value.int IntKind.u8 0, Value.int IntKind.u8 0, Value.int IntKind.u8 0, Value.int IntKind.u8 0, Value.int IntKind.u8 0, Value.int IntKind.u8 0, Value.int IntKind.u8 0, Value.int IntKind.u8 0, Value.int IntKind.u8 0, Value.int IntKind.u8 0, Value.int IntKind.u8 0, Value.int IntKind.u8 0, Value.int IntKind.u8 0, Value.int IntKind.u8 0, Value.int IntKind.u8 0, Value.int IntKind.u8 0, Value.int IntKind.u8 0, Value.int IntKind.u8 0, Value.int IntKind.u8 0, Value.int IntKind.u8 0, Value.int IntKind.u8 0, Value.int IntKind.u8 0, Value.int IntKind.u8 0, Value.int IntKind.u8 0, Value.int IntKind.u8 0, Value.int IntKind.u8 0, Value.int IntKind.u8 0, Value.int IntKind.u8 0, Value.int IntKind.u8 0, Value.int IntKind.u8 0, Value.int IntKind.u8 0, Value.int IntKind.u8 0, Value.int IntKind.u8 0, Value.int IntKind.u8 0, Value.int IntKind.u8 0, Value.int IntKind.u8 0, Value.int IntKind.u8 0, Value.int IntKind.u8 0, Value.int IntKind.u8 0, Value.int IntKind.u8 0, Value.int IntKind.u8 0, Value.int IntKind.u8 0, Value.int IntKind.u8 0, Value.int IntKind.u8 0, Value.int IntKind.u8 0, Value.int IntKind.u8 0, Value.int IntKind.u8 0, Value.int IntKind.u8 0, Value.int IntKind.u8 0, Value.int IntKind.u8 0, Value.int IntKind.u8 0, Value.int IntKind.u8 0, Value.int IntKind.u8 0, Value.int IntKind.u8 0, Value.int IntKind.u8 0, Value.int IntKind.u8 0, Value.int IntKind.u8 0, Value.int IntKind.u8 0, Value.int IntKind.u8 0, Value.int IntKind.u8 0, Value.int IntKind.u8 0, Value.int IntKind.u8 0, Value.int IntKind.u8 0, Value.int IntKind.u8 0, Value.int IntKind.u8 0, Value.int IntKind.u8 0, Value.int IntKind.u8 0, Value.int IntKind.u8 0, Value.int IntKind.u8 0, Value.int IntKind.u8 0, Value.int IntKind.u8 0, Value.int IntKind.u8 0, Value.int IntKind.u8 0, Value.int IntKind.u8 0, Value.int IntKind.u8 0, Value.int IntKind.u8 0, Value.int IntKind.u8 0, Value.int IntKind.u8 0, Value.int IntKind.u8 0, Value.int IntKind.u8 0, Value.int IntKind.u8 0, Value.int IntKind.u8 0, Value.int IntKind.u8 0, Value.int IntKind.u8 0, Value.int IntKind.u8 0, Value.int IntKind.u8 0, Value.int IntKind.u8 0, Value.int IntKind.u8 0, Value.int IntKind.u8 0, Value.int IntKind.u8 0, Value.int IntKind.u8 0, Value.int IntKind.u8 0, Value.int IntKind.u8 0, Value.int IntKind.u8 0, Value.int IntKind.u8 0, Value.int IntKind.u8 0, Value.int IntKind.u8 0, Value.int IntKind.u8 0, Value.int IntKind.u8 0, Value.int IntKind.u8 0, Value.int IntKind.u8 0, Value.int IntKind.u8 0, Value.int IntKind.u8 0, Value.int IntKind.u8 0, Value.int IntKind.u8 0, Value.int IntKind.u8 0, Value.int IntKind.u8 0, Value.int IntKind.u8 0, Value.int IntKind.u8 0, Value.int IntKind.u8 0, Value.int IntKind.u8 0, Value.int IntKind.u8 0, Value.int IntKind.u8 0, Value.int IntKind.u8 0, Value.int IntKind.u8 0, Value.int IntKind.u8 0, Value.int IntKind.u8 0, Value.int IntKind.u8 0, Value.int IntKind.u8 0, Value.int IntKind.u8 0, Value.int IntKind.u8 0, Value.int IntKind.u8 0, Value.int IntKind.u8 0, Value.int IntKind.u8 0, Value.int IntKind.u8 0, Value.int IntKind.u8 0, Value.int IntKind.u8 0, Value.int IntKind.u8 0, Value.int IntKind.u8 0, Value.int IntKind.u8 0, Value.int IntKind.u8 0, Value.int IntKind.u8 0, Value.int IntKind.u8 0, Value.int IntKind.u8 0, Value.int IntKind.u8 0, Value.int IntKind.u8 0, Value.int IntKind.u8 0, Value.int IntKind.u8 0, Value.int IntKind.u8 0, Value.int IntKind.u8 0, Value.int IntKind.u8 0, Value.int IntKind.u8 0, Value.int IntKind.u8 0, Value.int IntKind.u8 0, Value.int IntKind.u8 0, Value.int IntKind.u8 0, Value.int IntKind.u8 0, Value.int IntKind.u8 0, Value.int IntKind.u8 0, Value.int IntKind.u8 0, Value.int IntKind.u8 0, Value.int IntKind.u8 0, Value.int IntKind.u8 0, Value.int IntKind.u8 0, Value.int IntKind.u8 0, Value.int IntKind.u8 0, Value.int IntKind.u8 0, Value.int IntKind.u8 0, Value.int IntKind.u8 0, Value.int IntKind.u8 0, Value.int IntKind.u8 0, Value.int IntKind.u8 0, Value.int IntKind.u8 0, Value.int IntKind.u8 0, Value.int IntKind.u8 0, Value.int IntKind.u8 0, Value.int IntKind.u8 0, Value.int IntKind.u8 0, Value.int IntKind.u8 0, Value.int IntKind.u8 0, Value.int IntKind.u8 0, Value.int IntKind.u8 0, Value.int IntKind.u8 0, Value.int IntKind.u8 0, Value.int IntKind.u8 0, Value.int IntKind.u8 0, Value.int IntKind.u8 0]⟩
theorem tiok254 : TIok Tryz.prog 254 ti254 := tiOf Tryz.underlying254 Tryz.type254 rfl
def ti255 : TI := ⟨TypeDesc.struct #[{ name := "lo", type := 5, offset := 0, embedded := false, tag := "", pkgPath := "unicode/utf8", byteOffset := 0 }, { name := "hi", type := 5, offset := 1, embedded := false, tag := "", pkgPath := "unicode/utf8", byteOffset := 1 }], 2, 2, [Value.int IntKind.u8 0, Value.int IntKind.u8 0]⟩
theorem tiok255 : TIok Tryz.prog 255 ti255 := tiOf Tryz.underlying255 Tryz.type255 rfl
def ti256 : TI := ⟨TypeDesc.struct #[{ name := "lo", type := 5, offset := 0, embedded := false, tag := "", pkgPath := "unicode/utf8", byteOffset := 0 }, { name := "hi", type := 5, offset := 1, embedded := false, tag := "", pkgPath := "unicode/utf8", byteOffset := 1 }], 2, 2, [Value.int IntKind.u8 0, Value.int IntKind.u8 0]⟩
theorem tiok256 : TIok Tryz.prog 256 ti256 := tiOf Tryz.underlying256 Tryz.type256 rfl
def ti257 : TI := ⟨TypeDesc.array 16 256, 32, 32, [Value.int IntKind.u8 0, Value.int IntKind.u8 0, Value.int IntKind.u8 0, Value.int IntKind.u8 0, Value.int IntKind.u8 0, Value.int IntKind.u8 0, Value.int IntKind.u8 0, Value.int IntKind.u8 0, Value.int IntKind.u8 0, Value.int IntKind.u8 0, Value.int IntKind.u8 0, Value.int IntKind.u8 0, Value.int IntKind.u8 0, Value.int IntKind.u8 0, Value.int IntKind.u8 0, Value.int IntKind.u8 0, Value.int IntKind.u8 0, Value.int IntKind.u8 0, Value.int IntKind.u8 0, Value.int IntKind.u8 0, Value.int IntKind.u8 0, Value.int IntKind.u8 0, Value.int IntKind.u8 0, Value.int IntKind.u8 0, Value.int IntKind.u8 0, Value.int IntKind.u8 0, Value.int IntKind.u8 0, Value.int IntKind.u8 0, Value.int IntKind.u8 0, Value.int IntKind.u8 0, Value.int IntKind.u8 0, Value.int IntKind.u8 0]⟩
theorem tiok257 : TIok Tryz.prog 257 ti257 := tiOf Tryz.underlying257 Tryz.type257 rfl
def ti258 : TI := ⟨TypeDesc.func #[9, 5] #[3] false, 1, 8, [Value.nilFunc]⟩
theorem tiok258 : TIok Tryz.prog 258 ti258 := tiOf Tryz.underlying258 Tryz.type258 rfl
def ti259 : TI := ⟨TypeDesc.func #[21] #[4] false, 1, 8, [Value.nilFunc]⟩
theorem tiok259 : TIok Tryz.prog 259 ti259 := tiOf Tryz.underlying259 Tryz.type259 rfl
def ti260 : TI := ⟨TypeDesc.func #[9, 9] #[3] false, 1, 8, [Value.nilFunc]⟩
theorem tiok260 : TIok Tryz.prog 260 ti260 := tiOf Tryz.underlying260 Tryz.type260 rfl
def ti261 : TI := ⟨TypeDesc.func #[] #[9] false, 1, 8, [Value.nilFunc]⟩
theorem tiok261 : TIok Tryz.prog 261 ti261 := tiOf Tryz.underlying261 Tryz.type261 rfl
def ti262 : TI := ⟨TypeDesc.struct #[{ name := "_interface", type := 17, offset := 0, embedded := false, tag := "", pkgPath := "runtime", byteOffset := 0 }, { name := "concrete", type := 17, offset := 1, embedded := false, tag := "", pkgPath := "runtime", byteOffset := 8 }, { name := "asserted", type := 17, offset := 2, embedded := false, tag := "", pkgPath := "runtime", byteOffset := 16 }, { name := "missingMethod", type := 9, offset := 3, embedded := false, tag := "", pkgPath := "runtime", byteOffset := 24 }], 4, 40, [Value.pointer none, Value.pointer none, Value.pointer none, Value.string ⟨#[]⟩]⟩
theorem tiok262 : TIok Tryz.prog 262 ti262 := tiOf Tryz.underlying262 Tryz.type262 rfl
def ti263 : TI := ⟨TypeDesc.struct #[{ name := "_interface", type := 17, offset := 0, embedded := false, tag := "", pkgPath := "runtime", byteOffset := 0 }, { name := "concrete", type := 17, offset := 1, embedded := false, tag := "", pkgPath := "runtime", byteOffset := 8 }, { name := "asserted", type := 17, offset := 2, embedded := false, tag := "", pkgPath := "runtime", byteOffset := 16 }, { name := "missingMethod", type := 9, offset := 3, embedded := false, tag := "", pkgPath := "runtime", byteOffset := 24 }], 4, 40, [Value.pointer none, Value.pointer none, Value.pointer none, Value.string ⟨#[]⟩]⟩
theorem tiok263 : TIok Tryz.prog 263 ti263 := tiOf Tryz.underlying263 Tryz.type263 rfl
def ti264 : TI := ⟨TypeDesc.array 0 16, 0, 0, []⟩
theorem tiok264 : TIok Tryz.prog 264 ti264 := tiOf Tryz.underlying264 Tryz.type264 rfl
def ti265 : TI := ⟨TypeDesc.struct #[{ name := "_", type := 264, offset := 0, embedded := false, tag := "", pkgPath := "runtime", byteOffset := 0 }], 0, 0, []⟩
theorem tiok265 : TIok Tryz.prog 265 ti265 := tiOf Tryz.underlying265 Tryz.type265 rfl
def ti266 : TI := ⟨TypeDesc.struct #[{ name := "_", type := 264, offset := 0, embedded := false, tag := "", pkgPath := "runtime", byteOffset := 0 }], 0, 0, []⟩
theorem tiok266 : TIok Tryz.prog 266 ti266 := tiOf Tryz.underlying266 Tryz.type266 rfl
def ti267 : TI := ⟨TypeDesc.func #[] #[3] false, 1, 8, [Value.nilFunc]⟩
theorem tiok267 : TIok Tryz.prog 267 ti267 := tiOf Tryz.underlying267 Tryz.type267 rfl
def ti268 : TI := ⟨TypeDesc.int IntKind.u8, 1, 1, [Value.int IntKind.u8 0]⟩
theorem tiok268 : TIok Tryz.prog 268 ti268 := tiOf Tryz.underlying268 Tryz.type268 rfl
def ti269 : TI := ⟨TypeDesc.int IntKind.u8, 1, 1, [Value.int IntKind.u8 0]⟩
theorem tiok269 : TIok Tryz.prog 269 ti269 := tiOf Tryz.underlying269 Tryz.type269 rfl
def ti270 : TI := ⟨TypeDesc.func #[276, 276] #[4] false, 1, 8, [Value.nilFunc]⟩
theorem tiok270 : TIok Tryz.prog 270 ti270 := tiOf Tryz.underlying270 Tryz.type270 rfl
def ti272 : TI := ⟨TypeDesc.int IntKind.i32, 1, 4, [Value.int IntKind.i32 0]⟩
theorem tiok272 : TIok Tryz.prog 272 ti272 := tiOf Tryz.underlying272 Tryz.type272 rfl
def ti273 : TI := ⟨TypeDesc.int IntKind.i32, 1, 4, [Value.int IntKind.i32 0]⟩
theorem tiok273 : TIok Tryz.prog 273 ti273 := tiOf Tryz.underlying273 Tryz.type273 rfl
def ti274 : TI := ⟨TypeDesc.struct #[{ name := "Size_", type := 12, offset := 0, embedded := false, tag := "", pkgPath := "", byteOffset := 0 }, { name := "PtrBytes", type := 12, offset := 1, embedded := false, tag := "", pkgPath := "", byteOffset := 8 }, { name := "Hash", type := 220, offset := 2, embedded := false, tag := "", pkgPath := "", byteOffset := 16 }, { name := "TFlag", type := 268, offset := 3, embedded := false, tag := "", pkgPath := "", byteOffset := 20 }, { name := "Align_", type := 5, offset := 4, embedded := false, tag := "", pkgPath := "", byteOffset := 21 }, { name := "FieldAlign_", type := 5, offset := 5, embedded := false, tag := "", pkgPath := "", byteOffset := 22 }, { name := "Kind_", type := 269, offset := 6, embedded := false, tag := "", pkgPath := "", byteOffset := 23 }, { name := "Equal", type := 270, offset := 7, embedded := false, tag := "", pkgPath := "", byteOffset := 24 }, { name := "GCData", type := 271, offset := 8, embedded := false, tag := "", pkgPath := "", byteOffset := 32 }, { name := "Str", type := 272, offset := 9, embedded := false, tag := "", pkgPath := "", byteOffset := 40 }, { name := "PtrToThis", type := 273, offset := 10, embedded := false, tag := "", pkgPath := "", byteOffset := 44 }], 11, 48, [Value.int IntKind.u64 0, Value.int IntKind.u64 0, Value.int IntKind.u32 0, Value.int IntKind.u8 0, Value.int IntKind.u8 0, Value.int IntKind.u8 0, Value.int IntKind.u8 0, Value.nilFunc, Value.pointer none, Value.int IntKind.i32 0, Value.int IntKind.i32 0]⟩
theorem tiok274 : TIok Tryz.prog 274 ti274 := tiOf Tryz.underlying274 Tryz.type274 rfl
def ti275 : TI := ⟨TypeDesc.struct #[{ name := "Size_", type := 12, offset := 0, embedded := false, tag := "", pkgPath := "", byteOffset := 0 }, { name := "PtrBytes", type := 12, offset := 1, embedded := false, tag := "", pkgPath := "", byteOffset := 8 }, { name := "Hash", type := 220, offset := 2, embedded := false, tag := "", pkgPath := "", byteOffset := 16 }, { name := "TFlag", type := 268, offset := 3, embedded := false, tag := "", pkgPath := "", byteOffset := 20 }, { name := "Align_", type := 5, offset := 4, embedded := false, tag := "", pkgPath := "", byteOffset := 21 }, { name := "FieldAlign_", type := 5, offset := 5, embedded := false, tag := "", pkgPath := "", byteOffset := 22 }, { name := "Kind_", type := 269, offset := 6, embedded := false, tag := "", pkgPath := "", byteOffset := 23 }, { name := "Equal", type := 270, offset := 7, embedded := false, tag := "", pkgPath := "", byteOffset := 24 }, { name := "GCData", type := 271, offset := 8, embedded := false, tag := "", pkgPath := "", byteOffset := 32 }, { name := "Str", type := 272, offset := 9, embedded := false, tag := "", pkgPath := "", byteOffset := 40 }, { name := "PtrToThis", type := 273, offset := 10, embedded := false, tag := "", pkgPath := "", byteOffset := 44 }], 11, 48, [Value.int IntKind.u64 0, Value.int IntKind.u64 0, Value.int IntKind.u32 0, Value.int IntKind.u8 0, Value.int IntKind.u8 0, Value.int IntKind.u8 0, Value.int IntKind.u8 0, Value.nilFunc, Value.pointer none, Value.int IntKind.i32 0, Value.int IntKind.i32 0]⟩
theorem tiok275 : TIok Tryz.prog 275 ti275 := tiOf Tryz.underlying275 Tryz.type275 rfl
def tt : BT := (.n 140 ti140 (.n 76 ti76 (.n 37 ti37 (.n 19 ti19 (.n 8 ti8 (.n 4 ti4 (.n 2 ti2 (.n 1 ti1 .l .l) (.n 3 ti3 .l .l)) (.n 6 ti6 (.n 5 ti5 .l .l) (.n 7 ti7 .l .l))) (.n 12 ti12 (.n 10 ti10 (.n 9 ti9 .l .l) (.n 11 ti11 .l .l)) (.n 14 ti14 (.n 13 ti13 .l .l) (.n 18 ti18 .l .l)))) (.n 28 ti28 (.n 24 ti24 (.n 22 ti22 (.n 21 ti21 .l .l) (.n 23 ti23 .l .l)) (.n 26 ti26 (.n 25 ti25 .l .l) (.n 27 ti27 .l .l))) (.n 32 ti32 (.n 30 ti30 (.n 29 ti29 .l .l) (.n 31 ti31 .l .l)) (.n 35 ti35 (.n 34 ti34 .l .l) (.n 36 ti36 .l .l))))) (.n 58 ti58 (.n 49 ti49 (.n 43 ti43 (.n 39 ti39 (.n 38 ti38 .l .l) (.n 41 ti41 .l .l)) (.n 46 ti46 (.n 44 ti44 .l .l) (.n 48 ti48 .l .l))) (.n 53 ti53 (.n 51 ti51 (.n 50 ti50 .l .l) (.n 52 ti52 .l .l)) (.n 56 ti56 (.n 54 ti54 .l .l) (.n 57 ti57 .l .l)))) (.n 67 ti67 (.n 63 ti63 (.n 60 ti60 (.n 59 ti59 .l .l) (.n 61 ti61 .l .l)) (.n 65 ti65 (.n 64 ti64 .l .l) (.n 66 ti66 .l .l))) (.n 72 ti72 (.n 70 ti70 (.n 68 ti68 .l .l) (.n 71 ti71 .l .l)) (.n 75 ti75 (.n 73 ti73 .l .l) .l))))) (.n 109 ti109 (.n 94 ti94 (.n 86 ti86 (.n 81 ti81 (.n 79 ti79 (.n 78 ti78 .l .l) (.n 80 ti80 .l .l)) (.n 83 ti83 (.n 82 ti82 .l .l) (.n 85 ti85 .l .l))) (.n 90 ti90 (.n 88 ti88 (.n 87 ti87 .l .l) (.n 89 ti89 .l .l)) (.n 92 ti92 (.n 91 ti91 .l .l) (.n 93 ti93 .l .l)))) (.n 102 ti102 (.n 98 ti98 (.n 96 ti96 (.n 95 ti95 .l .l) (.n 97 ti97 .l .l)) (.n 100 ti100 (.n 99 ti99 .l .l) (.n 101 ti101 .l .l))) (.n 106 ti106 (.n 104 ti104 (.n 103 ti103 .l .l) (.n 105 ti105 .l .l)) (.n 108 ti108 (.n 107 ti107 .l .l) .l)))) (.n 125 ti125 (.n 117 ti117 (.n 113 ti113 (.n 111 ti111 (.n 110 ti110 .l .l) (.n 112 ti112 .l .l)) (.n 115 ti115 (.n 114 ti114 .l .l) (.n 116 ti116 .l .l))) (.n 121 ti121 (.n 119 ti119 (.n 118 ti118 .l .l) (.n 120 ti120 .l .l)) (.n 123 ti123 (.n 122 ti122 .l .l) (.n 124 ti124 .l .l)))) (.n 133 ti133 (.n 129 ti129 (.n 127 ti127 (.n 126 ti126 .l .l) (.n 128 ti128 .l .l)) (.n 131 ti131 (.n 130 ti130 .l .l) (.n 132 ti132 .l .l))) (.n 137 ti137 (.n 135 ti135 (.n 134 ti134 .l .l) (.n 136 ti136 .l .l)) (.n 139 ti139 (.n 138 ti138 .l .l) .l)))))) (.n 204 ti204 (.n 173 ti173 (.n 157 ti157 (.n 148 ti148 (.n 144 ti144 (.n 142 ti142 (.n 141 ti141 .l .l) (.n 143 ti143 .l .l)) (.n 146 ti146 (.n 145 ti145 .l .l) (.n 147 ti147 .l .l))) (.n 153 ti153 (.n 150 ti150 (.n 149 ti149 .l .l) (.n 151 ti151 .l .l)) (.n 155 ti155 (.n 154 ti154 .l .l) (.n 156 ti156 .l .l)))) (.n 166 ti166 (.n 161 ti161 (.n 159 ti159 (.n 158 ti158 .l .l) (.n 160 ti160 .l .l)) (.n 164 ti164 (.n 162 ti162 .l .l) (.n 165 ti165 .l .l))) (.n 170 ti170 (.n 168 ti168 (.n 167 ti167 .l .l) (.n 169 ti169 .l .l)) (.n 172 ti172 (.n 171 ti171 .l .l) .l)))) (.n 189 ti189 (.n 181 ti181 (.n 177 ti177 (.n 175 ti175 (.n 174 ti174 .l .l) (.n 176 ti176 .l .l)) (.n 179 ti179 (.n 178 ti178 .l .l) (.n 180 ti180 .l .l))) (.n 185 ti185 (.n 183 ti183 (.n 182 ti182 .l .l) (.n 184 ti184 .l .l)) (.n 187 ti187 (.n 186 ti186 .l .l) (.n 188 ti188 .l .l)))) (.n 197 ti197 (.n 193 ti193 (.n 191 ti191 (.n 190 ti190 .l .l) (.n 192 ti192 .l .l)) (.n 195 ti195 (.n 194 ti194 .l .l) (.n 196 ti196 .l .l))) (.n 201 ti201 (.n 199 ti199 (.n 198 ti198 .l .l) (.n 200 ti200 .l .l)) (.n 203 ti203 (.n 202 ti202 .l .l) .l))))) (.n 242 ti242 (.n 224 ti224 (.n 214 ti214 (.n 209 ti209 (.n 206 ti206 (.n 205 ti205 .l .l) (.n 207 ti207 .l .l)) (.n 211 ti211 (.n 210 ti210 .l .l) (.n 212 ti212 .l .l))) (.n 219 ti219 (.n 216 ti216 (.n 215 ti215 .l .l) (.n 218 ti218 .l .l)) (.n 221 ti221 (.n 220 ti220 .l .l) (.n 223 ti223 .l .l)))) (.n 234 ti234 (.n 229 ti229 (.n 226 ti226 (.n 225 ti225 .l .l) (.n 227 ti227 .l .l)) (.n 232 ti232 (.n 230 ti230 .l .l) (.n 233 ti233 .l .l))) (.n 239 ti239 (.n 236 ti236 (.n 235 ti235 .l .l) (.n 238 ti238 .l .l)) (.n 241 ti241 (.n 240 ti240 .l .l) .l)))) (.n 260 ti260 (.n 252 ti252 (.n 247 ti247 (.n 244 ti244 (.n 243 ti243 .l .l) (.n 246 ti246 .l .l)) (.n 250 ti250 (.n 249 ti249 .l .l) (.n 251 ti251 .l .l))) (.n 256 ti256 (.n 254 ti254 (.n 253 ti253 .l .l) (.n 255 ti255 .l .l)) (.n 258 ti258 (.n 257 ti257 .l .l) (.n 259 ti259 .l .l)))) (.n 268 ti268 (.n 264 ti264 (.n 262 ti262 (.n 261 ti261 .l .l) (.n 263 ti263 .l .l)) (.n 266 ti266 (.n 265 ti265 .l .l) (.n 267 ti267 .l .l))) (.n 273 ti273 (.n 270 ti270 (.n 269 ti269 .l .l) (.n 272 ti272 .l .l)) (.n 275 ti275 (.n 274 ti274 .l .l) .l)))))))
theorem tt_ok : BTok Tryz.prog tt := ⟨tiok140, ⟨tiok76, ⟨tiok37, ⟨tiok19, ⟨tiok8, ⟨tiok4, ⟨tiok2, ⟨tiok1, trivial, trivial⟩, ⟨tiok3, trivial, trivial⟩⟩, ⟨tiok6, ⟨tiok5, trivial, trivial⟩, ⟨tiok7, trivial, trivial⟩⟩⟩, ⟨tiok12, ⟨tiok10, ⟨tiok9, trivial, trivial⟩, ⟨tiok11, trivial, trivial⟩⟩, ⟨tiok14, ⟨tiok13, trivial, trivial⟩, ⟨tiok18, trivial, trivial⟩⟩⟩⟩, ⟨tiok28, ⟨tiok24, ⟨tiok22, ⟨tiok21, trivial, trivial⟩, ⟨tiok23, trivial, trivial⟩⟩, ⟨tiok26, ⟨tiok25, trivial, trivial⟩, ⟨tiok27, trivial, trivial⟩⟩⟩, ⟨tiok32, ⟨tiok30, ⟨tiok29, trivial, trivial⟩, ⟨tiok31, trivial, trivial⟩⟩, ⟨tiok35, ⟨tiok34, trivial, trivial⟩, ⟨tiok36, trivial, trivial⟩⟩⟩⟩⟩, ⟨tiok58, ⟨tiok49, ⟨tiok43, ⟨tiok39, ⟨tiok38, trivial, trivial⟩, ⟨tiok41, trivial, trivial⟩⟩, ⟨tiok46, ⟨tiok44, trivial, trivial⟩, ⟨tiok48, trivial, trivial⟩⟩⟩, ⟨tiok53, ⟨tiok51, ⟨tiok50, trivial, trivial⟩, ⟨tiok52, trivial, trivial⟩⟩, ⟨tiok56, ⟨tiok54, trivial, trivial⟩, ⟨tiok57, trivial, trivial⟩⟩⟩⟩, ⟨tiok67, ⟨tiok63, ⟨tiok60, ⟨tiok59, trivial, trivial⟩, ⟨tiok61, trivial, trivial⟩⟩, ⟨tiok65, ⟨tiok64, trivial, trivial⟩, ⟨tiok66, trivial, trivial⟩⟩⟩, ⟨tiok72, ⟨tiok70, ⟨tiok68, trivial, trivial⟩, ⟨tiok71, trivial, trivial⟩⟩, ⟨tiok75, ⟨tiok73, trivial, trivial⟩, trivial⟩⟩⟩⟩⟩, ⟨tiok109, ⟨tiok94, ⟨tiok86, ⟨tiok81, ⟨tiok79, ⟨tiok78, trivial, trivial⟩, ⟨tiok80, trivial, trivial⟩⟩, ⟨tiok83, ⟨tiok82, trivial, trivial⟩, ⟨tiok85, trivial, trivial⟩⟩⟩, ⟨tiok90, ⟨tiok88, ⟨tiok87, trivial, trivial⟩, ⟨tiok89, trivial, trivial⟩⟩, ⟨tiok92, ⟨tiok91, trivial, trivial⟩, ⟨tiok93, trivial, trivial⟩⟩⟩⟩, ⟨tiok102, ⟨tiok98, ⟨tiok96, ⟨tiok95, trivial, trivial⟩, ⟨tiok97, trivial, trivial⟩⟩, ⟨tiok100, ⟨tiok99, trivial, trivial⟩, ⟨tiok101, trivial, trivial⟩⟩⟩, ⟨tiok106, ⟨tiok104, ⟨tiok103, trivial, trivial⟩, ⟨tiok105, trivial, trivial⟩⟩, ⟨tiok108, ⟨tiok107, trivial, trivial⟩, trivial⟩⟩⟩⟩, ⟨tiok125, ⟨tiok117, ⟨tiok113, ⟨tiok111, ⟨tiok110, trivial, trivial⟩, ⟨tiok112, trivial, trivial⟩⟩, ⟨tiok115, ⟨tiok114, trivial, trivial⟩, ⟨tiok116, trivial, trivial⟩⟩⟩, ⟨tiok121, ⟨tiok119, ⟨tiok118, trivial, trivial⟩, ⟨tiok120, trivial, trivial⟩⟩, ⟨tiok123, ⟨tiok122, trivial, trivial⟩, ⟨tiok124, trivial, trivial⟩⟩⟩⟩, ⟨tiok133, ⟨tiok129, ⟨tiok127, ⟨tiok126, trivial, trivial⟩, ⟨tiok128, trivial, trivial⟩⟩, ⟨tiok131, ⟨tiok130, trivial, trivial⟩, ⟨tiok132, trivial, trivial⟩⟩⟩, ⟨tiok137, ⟨tiok135, ⟨tiok134, trivial, trivial⟩, ⟨tiok136, trivial, trivial⟩⟩, ⟨tiok139, ⟨tiok138, trivial, trivial⟩, trivial⟩⟩⟩⟩⟩⟩, ⟨tiok204, ⟨tiok173, ⟨tiok157, ⟨tiok148, ⟨tiok144, ⟨tiok142, ⟨tiok141, trivial, trivial⟩, ⟨tiok143, trivial, trivial⟩⟩, ⟨tiok146, ⟨tiok145, trivial, trivial⟩, ⟨tiok147, trivial, trivial⟩⟩⟩, ⟨tiok153, ⟨tiok150, ⟨tiok149, trivial, trivial⟩, ⟨tiok151, trivial, trivial⟩⟩, ⟨tiok155, ⟨tiok154, trivial, trivial⟩, ⟨tiok156, trivial, trivial⟩⟩⟩⟩, ⟨tiok166, ⟨tiok161, ⟨tiok159, ⟨tiok158, trivial, trivial⟩, ⟨tiok160, trivial, trivial⟩⟩, ⟨tiok164, ⟨tiok162, trivial, trivial⟩, ⟨tiok165, trivial, trivial⟩⟩⟩, ⟨tiok170, ⟨tiok168, ⟨tiok167, trivial, trivial⟩, ⟨tiok169, trivial, trivial⟩⟩, ⟨tiok172, ⟨tiok171, trivial, trivial⟩, trivial⟩⟩⟩⟩, ⟨tiok189, ⟨tiok181, ⟨tiok177, ⟨tiok175, ⟨tiok174, trivial, trivial⟩, ⟨tiok176, trivial, trivial⟩⟩, ⟨tiok179, ⟨tiok178, trivial, trivial⟩, ⟨tiok180, trivial, trivial⟩⟩⟩, ⟨tiok185, ⟨tiok183, ⟨tiok182, trivial, trivial⟩, ⟨tiok184, trivial, trivial⟩⟩, ⟨tiok187, ⟨tiok186, trivial, trivial⟩, ⟨tiok188, trivial, trivial⟩⟩⟩⟩, ⟨tiok197, ⟨tiok193, ⟨tiok191, ⟨tiok190, trivial, trivial⟩, ⟨tiok192, trivial, trivial⟩⟩, ⟨tiok195, ⟨tiok194, trivial, trivial⟩, ⟨tiok196, trivial, trivial⟩⟩⟩, ⟨tiok201, ⟨tiok199, ⟨tiok198, trivial, trivial⟩, ⟨tiok200, trivial, trivial⟩⟩, ⟨tiok203, ⟨tiok202, trivial, trivial⟩, trivial⟩⟩⟩⟩⟩, ⟨tiok242, ⟨tiok224, ⟨tiok214, ⟨tiok209, ⟨tiok206, ⟨tiok205, trivial, trivial⟩, ⟨tiok207, trivial, trivial⟩⟩, ⟨tiok211, ⟨tiok210, trivial, trivial⟩, ⟨tiok212, trivial, trivial⟩⟩⟩, ⟨tiok219, ⟨tiok216, ⟨tiok215, trivial, trivial⟩, ⟨tiok218, trivial, trivial⟩⟩, ⟨tiok221, ⟨tiok220, trivial, trivial⟩, ⟨tiok223, trivial, trivial⟩⟩⟩⟩, ⟨tiok234, ⟨tiok229, ⟨tiok226, ⟨tiok225, trivial, trivial⟩, ⟨tiok227, trivial, trivial⟩⟩, ⟨tiok232, ⟨tiok230, trivial, trivial⟩, ⟨tiok233, trivial, trivial⟩⟩⟩, ⟨tiok239, ⟨tiok236, ⟨tiok235, trivial, trivial⟩, ⟨tiok238, trivial, trivial⟩⟩, ⟨tiok241, ⟨tiok240, trivial, trivial⟩, trivial⟩⟩⟩⟩, ⟨tiok260, ⟨tiok252, ⟨tiok247, ⟨tiok244, ⟨tiok243, trivial, trivial⟩, ⟨tiok246, trivial, trivial⟩⟩, ⟨tiok250, ⟨tiok249, trivial, trivial⟩, ⟨tiok251, trivial, trivial⟩⟩⟩, ⟨tiok256, ⟨tiok254, ⟨tiok253, trivial, trivial⟩, ⟨tiok255, trivial, trivial⟩⟩, ⟨tiok258, ⟨tiok257, trivial, trivial⟩, ⟨tiok259, trivial, trivial⟩⟩⟩⟩, ⟨tiok268, ⟨tiok264, ⟨tiok262, ⟨tiok261, trivial, trivial⟩, ⟨tiok263, trivial, trivial⟩⟩, ⟨tiok266, ⟨tiok265, trivial, trivial⟩, ⟨tiok267, trivial, trivial⟩⟩⟩, ⟨tiok273, ⟨tiok270, ⟨tiok269, trivial, trivial⟩, ⟨tiok272, trivial, trivial⟩⟩, ⟨tiok275, ⟨tiok274, trivial, trivial⟩, trivial⟩⟩⟩⟩⟩⟩⟩
end Go.Proofs.Am

/- '==' of structs and arrays of numbers. -/
namespace Go.Proofs.Am
open Go Go.RowKit
variable {P : Program}

theorem eqCell_i {E : Env} {a b : AV} {x y : Value} {q : Bool} (ra : Rel E a x) (rb : Rel E b y) (h : eqCell .i a b = some q) : ∃ k m n, x = .int k m ∧ y = .int k n ∧ q = (m == n) := by
  simp only [eqCell] at h
  split at h
  · rename_i k m k' n ha hb
    split at h
    · rename_i he
      have := of_decide_eq_true he
      subst this
      simp only [Option.some.injEq] at h
      exact ⟨k, m, n, ra.plain ha, rb.plain hb, h.symm⟩
    · cases h
  · cases h

theorem eqCells_cons {k : CK} {ks : List CK} {ls rs : List AV} {q : Bool} (h : eqCells (k :: ks) ls rs = some q) :
    ∃ a ls' b rs' p q', ls = a :: ls' ∧ rs = b :: rs' ∧ eqCell k a b = some p ∧ eqCells ks ls' rs' = some q' ∧ q = (p && q') := by
  cases ls with
  | nil => cases ks <;> simp [eqCells] at h
  | cons a ls =>
    cases rs with
    | nil => cases ks <;> cases ls <;> simp [eqCells] at h
    | cons b rs =>
      have gen : (match eqCell k a b, eqCells ks ls rs with | some p, some q => some (p && q) | _, _ => none) = some q → ∃ a' ls' b' rs' p q', a :: ls = a' :: ls' ∧ b :: rs = b' :: rs' ∧ eqCell k a' b' = some p ∧ eqCells ks ls' rs' = some q' ∧ q = (p && q') := fun h => by
        split at h
        · rename_i p q' hp hq
          simp only [Option.some.injEq] at h
          exact ⟨a, ls, b, rs, p, q', rfl, rfl, hp, hq, h.symm⟩
        · cases h
      by_cases hone : ks = [] ∧ ls = [] ∧ rs = []
      · obtain ⟨rfl, rfl, rfl⟩ := hone
        simp only [eqCells] at h
        exact ⟨a, [], b, [], q, true, rfl, rfl, h, rfl, by simp⟩
      · refine gen ?_
        rw [← h]
        cases ks <;> cases ls <;> cases rs <;> first | (exact absurd ⟨rfl, rfl, rfl⟩ hone) | rfl | (simp only [eqCells]; rfl)

/-- A list of pairs of numbers, ls two lists of values. -/
def lefts (l : List (IntKind × Int × Int)) : List Value := l.map fun p => .int p.1 p.2.1
def rights (l : List (IntKind × Int × Int)) : List Value := l.map fun p => .int p.1 p.2.2

theorem eqCells_ints {E : Env} : ∀ (n : Nat) {ls rs : List AV} {xs ys : List Value} {q : Bool}, RelL E ls xs → RelL E rs ys → eqCells (List.replicate n .i) ls rs = some q →
    ∃ l : List (IntKind × Int × Int), l.length = n ∧ xs = lefts l ∧ ys = rights l ∧ q = l.all fun p => p.2.1 == p.2.2
  | 0, ls, rs, xs, ys, q, ha, hb, h => by
    cases ls with
    | cons a ls => cases rs <;> simp [eqCells] at h
    | nil =>
      cases rs with
      | cons b rs => simp [eqCells] at h
      | nil =>
        simp [eqCells] at h
        obtain rfl := ha.nil_inv
        obtain rfl := hb.nil_inv
        exact ⟨[], rfl, rfl, rfl, by simp [h]⟩
  | n + 1, ls, rs, xs, ys, q, ha, hb, h => by
    obtain ⟨a, ls', b, rs', p, q', rfl, rfl, hp, hq, rfl⟩ := eqCells_cons h
    obtain ⟨x, xs', rfl, hx, hxs⟩ := ha.cons_inv
    obtain ⟨y, ys', rfl, hy, hys⟩ := hb.cons_inv
    obtain ⟨k, m, n', rfl, rfl, rfl⟩ := eqCell_i hx hy hp
    obtain ⟨l, hl, rfl, rfl, rfl⟩ := eqCells_ints n hxs hys hq
    exact ⟨(k, m, n') :: l, by simp [hl], rfl, rfl, by simp⟩

theorem run_part_int {t : TypeId} {k' : IntKind} (h : P.underlying t = some (.int k')) {xs : Array Value} {o : Nat} {v : Value} (hv : xs[o]? = some v) (w : World) : (part t xs o).run P w = .ok v w := by
  unfold part
  have : (isAgg t).run P w = .ok false w := by
    unfold isAgg
    rw [Sem.run_bind, run_underlying h]; rfl
  rw [Sem.run_bind, this]
  simp [hv]

def FieldsInt (P : Program) (xs ys : Array Value) : List Field → List (IntKind × Int × Int) → Prop
  | [], [] => True
  | f :: fs, p :: l => f.name ≠ "_" ∧ (∃ k', P.underlying f.type = some (.int k')) ∧ xs[f.offset]? = some (.int p.1 p.2.1) ∧ ys[f.offset]? = some (.int p.1 p.2.2) ∧ FieldsInt P xs ys fs l
  | _, _ => False

theorem run_eqFields_int {xs ys : Array Value} (d : Nat) (w : World) : ∀ {fs : List Field} {l : List (IntKind × Int × Int)}, FieldsInt P xs ys fs l →
    (Op.eqFields (d + 1) xs ys fs).run P w = .ok (l.all fun p => p.2.1 == p.2.2) w
  | [], [], _ => rfl
  | f :: fs, p :: l, h => by
    obtain ⟨h1, ⟨k', h2⟩, h3, h4, h5⟩ := h
    unfold Op.eqFields
    rw [if_pos h1, Sem.run_bind, run_part_int h2 h3]
    simp only [Result.andThen_ok]
    rw [Sem.run_bind, run_part_int h2 h4]
    simp only [Result.andThen_ok]
    rw [Sem.run_bind, run_equalIn_int w d f.type p.1 k' p.2.1 p.2.2 h2]
    simp only [Result.andThen_ok]
    have ih := run_eqFields_int d w h5
    cases hq : (p.2.1 == p.2.2)
    · simp [hq]
    · simp [hq, ih]
  | [], _ :: _, h => h.elim
  | _ :: _, [], h => h.elim

theorem aggEq_struct {t : TypeId} {fs : Array Field} (n : Nat) (hg : P.eqGuardType P.depth t = false) (hu : P.underlying t = some (.struct fs)) (hs : P.stoodInHeld t = false)
    (hf : ∀ l : List (IntKind × Int × Int), l.length = n → FieldsInt P (lefts l).toArray (rights l).toArray fs.toList l) : AggEq P t (List.replicate n .i) := by
  refine ⟨hg, fun E ls rs xs ys q w ha hb h => ?_⟩
  obtain ⟨l, hl, hx, hy, rfl⟩ := eqCells_ints n ha hb h
  have e1 : xs = (lefts l).toArray := by apply Array.ext'; simpa using hx
  have e2 : ys = (rights l).toArray := by apply Array.ext'; simpa using hy
  subst e1
  subst e2
  have hfo : P.fieldsOf t = fs := by unfold Program.fieldsOf; rw [hu]
  show (Op.equalIn (9999 + 1) t _ _).run P w = _
  rw [run_equalIn_struct w 9999 t _ _ (by rw [hfo]; exact hu) hs, hfo]
  exact run_eqFields_int 9998 w (hf l hl)

def ItemsInt (xs ys : Array Value) : List Nat → List (IntKind × Int × Int) → Prop
  | [], [] => True
  | j :: js, p :: l => xs[j]? = some (.int p.1 p.2.1) ∧ ys[j]? = some (.int p.1 p.2.2) ∧ ItemsInt xs ys js l
  | _, _ => False

theorem run_eqItems_int {e : TypeId} {k' : IntKind} (he : P.underlying e = some (.int k')) {xs ys : Array Value} (d : Nat) (w : World) : ∀ {js : List Nat} {l : List (IntKind × Int × Int)}, ItemsInt xs ys js l →
    (Op.eqItems (d + 1) e 1 xs ys js).run P w = .ok (l.all fun p => p.2.1 == p.2.2) w
  | [], [], _ => rfl
  | j :: js, p :: l, h => by
    obtain ⟨h3, h4, h5⟩ := h
    unfold Op.eqItems
    rw [Nat.mul_one, Sem.run_bind, run_part_int he h3]
    simp only [Result.andThen_ok]
    rw [Sem.run_bind, run_part_int he h4]
    simp only [Result.andThen_ok]
    rw [Sem.run_bind, run_equalIn_int w d e p.1 k' p.2.1 p.2.2 he]
    simp only [Result.andThen_ok]
    have ih := run_eqItems_int he d w h5
    cases hq : (p.2.1 == p.2.2)
    · simp [hq]
    · simp [hq, ih]
  | [], _ :: _, h => h.elim
  | _ :: _, [], h => h.elim

theorem aggEq_array {t e : TypeId} {k' : IntKind} (n : Nat) {i : TypeInfo} (hg : P.eqGuardType P.depth t = false) (hu : P.underlying t = some (.array n e)) (he : P.underlying e = some (.int k')) (hi : P.types[e]? = some i) (hsz : i.size = 1)
    (hf : ∀ l : List (IntKind × Int × Int), l.length = n → ItemsInt (lefts l).toArray (rights l).toArray (List.range n) l) : AggEq P t (List.replicate n .i) := by
  refine ⟨hg, fun E ls rs xs ys q w ha hb h => ?_⟩
  obtain ⟨l, hl, hx, hy, rfl⟩ := eqCells_ints n ha hb h
  have e1 : xs = (lefts l).toArray := by apply Array.ext'; simpa using hx
  have e2 : ys = (rights l).toArray := by apply Array.ext'; simpa using hy
  subst e1
  subst e2
  have hc : P.cellsOf e = 1 := by
    unfold Program.cellsOf
    rw [info_of hi]; simp [hsz]
  show (Op.equalIn (9999 + 1) t _ _).run P w = _
  rw [run_equalIn_array w 9999 _ _ hu (info_of hi), hc]
  exact run_eqItems_int he 9998 w (hf l hl)

theorem eq72 : AggEq Tryz.prog 72 [.i, .i] := aggEq_array 2 Tryz.eqGuardType72 Tryz.underlying72 Tryz.underlying3 Tryz.type3 rfl fun l hl => by
  obtain ⟨a, b, rfl⟩ : ∃ a b, l = [a, b] := by
    match l, hl with
    | [a, b], _ => exact ⟨a, b, rfl⟩
  exact ⟨rfl, rfl, rfl, rfl, trivial⟩
theorem eq29 : AggEq Tryz.prog 29 [.i, .i, .i, .i] := aggEq_struct 4 Tryz.eqGuardType29 Tryz.underlying29 Tryz.stoodInHeld29 fun l hl => by
  obtain ⟨a, b, c, d, rfl⟩ : ∃ a b c d, l = [a, b, c, d] := by
    match l, hl with
    | [a, b, c, d], _ => exact ⟨a, b, c, d, rfl⟩
  exact ⟨by decide, ⟨_, Tryz.underlying3⟩, rfl, rfl, by decide, ⟨_, Tryz.underlying3⟩, rfl, rfl, by decide, ⟨_, Tryz.underlying3⟩, rfl, rfl, by decide, ⟨_, Tryz.underlying3⟩, rfl, rfl, trivial⟩
theorem eq192 : AggEq Tryz.prog 192 [.i, .i] := aggEq_struct 2 Tryz.eqGuardType192 Tryz.underlying192 Tryz.stoodInHeld192 fun l hl => by
  obtain ⟨a, b, rfl⟩ : ∃ a b, l = [a, b] := by
    match l, hl with
    | [a, b], _ => exact ⟨a, b, rfl⟩
  exact ⟨by decide, ⟨_, Tryz.underlying190⟩, rfl, rfl, by decide, ⟨_, Tryz.underlying190⟩, rfl, rfl, trivial⟩
theorem eq68 : AggEq Tryz.prog 68 [.i, .i, .i, .i, .i, .i] := aggEq_struct 6 Tryz.eqGuardType68 Tryz.underlying68 Tryz.stoodInHeld68 fun l hl => by
  obtain ⟨a, b, c, d, e, f, rfl⟩ : ∃ a b c d e f, l = [a, b, c, d, e, f] := by
    match l, hl with
    | [a, b, c, d, e, f], _ => exact ⟨a, b, c, d, e, f, rfl⟩
  exact ⟨by decide, ⟨_, Tryz.underlying3⟩, rfl, rfl, by decide, ⟨_, Tryz.underlying3⟩, rfl, rfl, by decide, ⟨_, Tryz.underlying3⟩, rfl, rfl, by decide, ⟨_, Tryz.underlying3⟩, rfl, rfl,
    by decide, ⟨_, Tryz.underlying3⟩, rfl, rfl, by decide, ⟨_, Tryz.underlying3⟩, rfl, rfl, trivial⟩

theorem eq95 : AggEq Tryz.prog 95 [.i, .i] := aggEq_struct 2 Tryz.eqGuardType95 Tryz.underlying95 Tryz.stoodInHeld95 fun l hl => by
  obtain ⟨a, b, rfl⟩ : ∃ a b, l = [a, b] := by
    match l, hl with
    | [a, b], _ => exact ⟨a, b, rfl⟩
  exact ⟨by decide, ⟨_, Tryz.underlying3⟩, rfl, rfl, by decide, ⟨_, Tryz.underlying3⟩, rfl, rfl, trivial⟩

def eqt : List (Nat × List CK) := [(72, [.i, .i]), (29, [.i, .i, .i, .i]), (192, [.i, .i]), (68, [.i, .i, .i, .i, .i, .i]), (95, [.i, .i])]
theorem eqt_ok : EqOK Tryz.prog eqt := ⟨eq72, eq29, eq192, eq68, eq95, trivial⟩

theorem mixed_ok : Tryz.prog.follows .mixedOrders = true := by kernel_rfl

/-- A context of this program. -/
abbrev ctx (inl : List Nat) (fs : List (Nat × Func)) : Ctx := { tt := tt, eqt := eqt, inl := inl, fs := fs, own := [] }
/-- The same where some functions may own memory. -/
abbrev ctxO (own inl : List Nat) (fs : List (Nat × Func)) : Ctx := { tt := tt, eqt := eqt, inl := inl, fs := fs, own := own }
theorem ctx_ok {inl : List Nat} {fs : List (Nat × Func)} (hf : FsOK Tryz.prog fs) (hi : inlIn inl fs = true) : CtxOK Tryz.prog (ctx inl fs) := mkCtx tt_ok eqt_ok mixed_ok hf hi
theorem ctxO_ok {own inl : List Nat} {fs : List (Nat × Func)} (hf : FsOK Tryz.prog fs) (hi : inlIn inl fs = true) : CtxOK Tryz.prog (ctxO own inl fs) := mkCtx tt_ok eqt_ok mixed_ok hf hi
end Go.Proofs.Am
