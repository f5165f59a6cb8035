/- What is known of the data types of this seat's program. Written by a program of this session (gen_types.py) out of Lean's own print of the program's types. -/
import Derived.Test.YtllagpbbbdekiabGA
import Derived.Test.YtllagpbbbdekiabProg
namespace Go.Proofs.Ytllagpbbbdekiab.Fw
open Go
set_option maxRecDepth 100000
def ti1 : TInfo := ⟨(TypeDesc.func #[] #[] false), false, 1, 8, [.raw .nilFunc], none, false, false⟩
theorem ti1_ok : TInfoOk Try.prog 1 ti1 := ⟨Try.underlying1, ⟨(.nilFunc), by kernel_rfl, rfl, rfl⟩, rfl, rfl, rfl, fun c h => (by first | (cases h; done) | (obtain rfl := Option.some.inj h; exact ⟨rfl, rfl, rfl⟩)), fun h => (by first | (cases h; done) | exact ⟨by kernel_rfl, by kernel_rfl, by kernel_rfl⟩)⟩
def ti2 : TInfo := ⟨(TypeDesc.int IntKind.i64), false, 1, 8, [.int .i64 0], (some (.int .i64)), false, false⟩
theorem ti2_ok : TInfoOk Try.prog 2 ti2 := ⟨Try.underlying2, ⟨(.int .i64 0), by kernel_rfl, rfl, rfl⟩, rfl, rfl, rfl, fun c h => (by first | (cases h; done) | (obtain rfl := Option.some.inj h; exact ⟨rfl, rfl, rfl⟩)), fun h => (by first | (cases h; done) | exact ⟨by kernel_rfl, by kernel_rfl, by kernel_rfl⟩)⟩
def ti3 : TInfo := ⟨(TypeDesc.int IntKind.i64), false, 1, 8, [.int .i64 0], (some (.int .i64)), false, false⟩
theorem ti3_ok : TInfoOk Try.prog 3 ti3 := ⟨Try.underlying3, ⟨(.int .i64 0), by kernel_rfl, rfl, rfl⟩, rfl, rfl, rfl, fun c h => (by first | (cases h; done) | (obtain rfl := Option.some.inj h; exact ⟨rfl, rfl, rfl⟩)), fun h => (by first | (cases h; done) | exact ⟨by kernel_rfl, by kernel_rfl, by kernel_rfl⟩)⟩
def ti4 : TInfo := ⟨TypeDesc.bool, false, 1, 1, [.bool false], (some (.bool)), false, false⟩
theorem ti4_ok : TInfoOk Try.prog 4 ti4 := ⟨Try.underlying4, ⟨(.bool false), by kernel_rfl, rfl, rfl⟩, rfl, rfl, rfl, fun c h => (by first | (cases h; done) | (obtain rfl := Option.some.inj h; exact ⟨rfl, rfl, rfl⟩)), fun h => (by first | (cases h; done) | exact ⟨by kernel_rfl, by kernel_rfl, by kernel_rfl⟩)⟩
def ti5 : TInfo := ⟨(TypeDesc.int IntKind.u8), false, 1, 1, [.int .u8 0], (some (.int .u8)), false, false⟩
theorem ti5_ok : TInfoOk Try.prog 5 ti5 := ⟨Try.underlying5, ⟨(.int .u8 0), by kernel_rfl, rfl, rfl⟩, rfl, rfl, rfl, fun c h => (by first | (cases h; done) | (obtain rfl := Option.some.inj h; exact ⟨rfl, rfl, rfl⟩)), fun h => (by first | (cases h; done) | exact ⟨by kernel_rfl, by kernel_rfl, by kernel_rfl⟩)⟩
def ti9 : TInfo := ⟨TypeDesc.string, false, 1, 16, [.str ByteArray.empty], (some (.str)), false, false⟩
theorem ti9_ok : TInfoOk Try.prog 9 ti9 := ⟨Try.underlying9, ⟨(.string ByteArray.empty), by kernel_rfl, rfl, rfl⟩, rfl, rfl, rfl, fun c h => (by first | (cases h; done) | (obtain rfl := Option.some.inj h; exact ⟨rfl, rfl, rfl⟩)), fun h => (by first | (cases h; done) | exact ⟨by kernel_rfl, by kernel_rfl, by kernel_rfl⟩)⟩
def ti21 : TInfo := ⟨(TypeDesc.int IntKind.i32), false, 1, 4, [.int .i32 0], (some (.int .i32)), false, false⟩
theorem ti21_ok : TInfoOk Try.prog 21 ti21 := ⟨Try.underlying21, ⟨(.int .i32 0), by kernel_rfl, rfl, rfl⟩, rfl, rfl, rfl, fun c h => (by first | (cases h; done) | (obtain rfl := Option.some.inj h; exact ⟨rfl, rfl, rfl⟩)), fun h => (by first | (cases h; done) | exact ⟨by kernel_rfl, by kernel_rfl, by kernel_rfl⟩)⟩
def ti22 : TInfo := ⟨(TypeDesc.slice 5), false, 1, 24, [.raw (.slice none 0 0)], none, false, false⟩
theorem ti22_ok : TInfoOk Try.prog 22 ti22 := ⟨Try.underlying22, ⟨((.slice none 0 0)), by kernel_rfl, rfl, rfl⟩, rfl, rfl, rfl, fun c h => (by first | (cases h; done) | (obtain rfl := Option.some.inj h; exact ⟨rfl, rfl, rfl⟩)), fun h => (by first | (cases h; done) | exact ⟨by kernel_rfl, by kernel_rfl, by kernel_rfl⟩)⟩
def ti23 : TInfo := ⟨(TypeDesc.func #[22] #[4] false), false, 1, 8, [.raw .nilFunc], none, false, false⟩
theorem ti23_ok : TInfoOk Try.prog 23 ti23 := ⟨Try.underlying23, ⟨(.nilFunc), by kernel_rfl, rfl, rfl⟩, rfl, rfl, rfl, fun c h => (by first | (cases h; done) | (obtain rfl := Option.some.inj h; exact ⟨rfl, rfl, rfl⟩)), fun h => (by first | (cases h; done) | exact ⟨by kernel_rfl, by kernel_rfl, by kernel_rfl⟩)⟩
def ti24 : TInfo := ⟨(TypeDesc.struct #[{ name := "Num", type := 2, offset := 0, embedded := false, tag := "", pkgPath := "", byteOffset := 0 }, { name := "Den", type := 2, offset := 1, embedded := false, tag := "", pkgPath := "", byteOffset := 8 }]), true, 2, 16, [.int .i64 0, .int .i64 0], (some (.pair (.int .i64) (.int .i64))), true, false⟩
theorem ti24_ok : TInfoOk Try.prog 24 ti24 := ⟨Try.underlying24, ⟨(.agg #[.int .i64 0, .int .i64 0]), by kernel_rfl, rfl, rfl⟩, rfl, rfl, rfl, fun c h => (by first | (cases h; done) | (obtain rfl := Option.some.inj h; exact ⟨rfl, rfl, rfl⟩)), fun h => (by first | (cases h; done) | exact ⟨by kernel_rfl, by kernel_rfl, by kernel_rfl⟩)⟩
def ti25 : TInfo := ⟨(TypeDesc.struct #[{ name := "Num", type := 2, offset := 0, embedded := false, tag := "", pkgPath := "", byteOffset := 0 }, { name := "Den", type := 2, offset := 1, embedded := false, tag := "", pkgPath := "", byteOffset := 8 }]), true, 2, 16, [.int .i64 0, .int .i64 0], (some (.pair (.int .i64) (.int .i64))), true, false⟩
theorem ti25_ok : TInfoOk Try.prog 25 ti25 := ⟨Try.underlying25, ⟨(.agg #[.int .i64 0, .int .i64 0]), by kernel_rfl, rfl, rfl⟩, rfl, rfl, rfl, fun c h => (by first | (cases h; done) | (obtain rfl := Option.some.inj h; exact ⟨rfl, rfl, rfl⟩)), fun h => (by first | (cases h; done) | exact ⟨by kernel_rfl, by kernel_rfl, by kernel_rfl⟩)⟩
def ti26 : TInfo := ⟨(TypeDesc.func #[22] #[25] false), false, 1, 8, [.raw .nilFunc], none, false, false⟩
theorem ti26_ok : TInfoOk Try.prog 26 ti26 := ⟨Try.underlying26, ⟨(.nilFunc), by kernel_rfl, rfl, rfl⟩, rfl, rfl, rfl, fun c h => (by first | (cases h; done) | (obtain rfl := Option.some.inj h; exact ⟨rfl, rfl, rfl⟩)), fun h => (by first | (cases h; done) | exact ⟨by kernel_rfl, by kernel_rfl, by kernel_rfl⟩)⟩
def ti27 : TInfo := ⟨(TypeDesc.slice 43), false, 1, 24, [.raw (.slice none 0 0)], none, false, false⟩
theorem ti27_ok : TInfoOk Try.prog 27 ti27 := ⟨Try.underlying27, ⟨((.slice none 0 0)), by kernel_rfl, rfl, rfl⟩, rfl, rfl, rfl, fun c h => (by first | (cases h; done) | (obtain rfl := Option.some.inj h; exact ⟨rfl, rfl, rfl⟩)), fun h => (by first | (cases h; done) | exact ⟨by kernel_rfl, by kernel_rfl, by kernel_rfl⟩)⟩
def ti29 : TInfo := ⟨(TypeDesc.func #[25] #[27, 2] false), false, 1, 8, [.raw .nilFunc], none, false, false⟩
theorem ti29_ok : TInfoOk Try.prog 29 ti29 := ⟨Try.underlying29, ⟨(.nilFunc), by kernel_rfl, rfl, rfl⟩, rfl, rfl, rfl, fun c h => (by first | (cases h; done) | (obtain rfl := Option.some.inj h; exact ⟨rfl, rfl, rfl⟩)), fun h => (by first | (cases h; done) | exact ⟨by kernel_rfl, by kernel_rfl, by kernel_rfl⟩)⟩
def ti30 : TInfo := ⟨(TypeDesc.func #[27, 27] #[4] false), false, 1, 8, [.raw .nilFunc], none, false, false⟩
theorem ti30_ok : TInfoOk Try.prog 30 ti30 := ⟨Try.underlying30, ⟨(.nilFunc), by kernel_rfl, rfl, rfl⟩, rfl, rfl, rfl, fun c h => (by first | (cases h; done) | (obtain rfl := Option.some.inj h; exact ⟨rfl, rfl, rfl⟩)), fun h => (by first | (cases h; done) | exact ⟨by kernel_rfl, by kernel_rfl, by kernel_rfl⟩)⟩
def ti32 : TInfo := ⟨(TypeDesc.func #[22] #[25, 2] false), false, 1, 8, [.raw .nilFunc], none, false, false⟩
theorem ti32_ok : TInfoOk Try.prog 32 ti32 := ⟨Try.underlying32, ⟨(.nilFunc), by kernel_rfl, rfl, rfl⟩, rfl, rfl, rfl, fun c h => (by first | (cases h; done) | (obtain rfl := Option.some.inj h; exact ⟨rfl, rfl, rfl⟩)), fun h => (by first | (cases h; done) | exact ⟨by kernel_rfl, by kernel_rfl, by kernel_rfl⟩)⟩
def ti34 : TInfo := ⟨(TypeDesc.func #[25, 2] #[2, 2] false), false, 1, 8, [.raw .nilFunc], none, false, false⟩
theorem ti34_ok : TInfoOk Try.prog 34 ti34 := ⟨Try.underlying34, ⟨(.nilFunc), by kernel_rfl, rfl, rfl⟩, rfl, rfl, rfl, fun c h => (by first | (cases h; done) | (obtain rfl := Option.some.inj h; exact ⟨rfl, rfl, rfl⟩)), fun h => (by first | (cases h; done) | exact ⟨by kernel_rfl, by kernel_rfl, by kernel_rfl⟩)⟩
def ti36 : TInfo := ⟨(TypeDesc.func #[22] #[25, 25, 2] false), false, 1, 8, [.raw .nilFunc], none, false, false⟩
theorem ti36_ok : TInfoOk Try.prog 36 ti36 := ⟨Try.underlying36, ⟨(.nilFunc), by kernel_rfl, rfl, rfl⟩, rfl, rfl, rfl, fun c h => (by first | (cases h; done) | (obtain rfl := Option.some.inj h; exact ⟨rfl, rfl, rfl⟩)), fun h => (by first | (cases h; done) | exact ⟨by kernel_rfl, by kernel_rfl, by kernel_rfl⟩)⟩
def ti38 : TInfo := ⟨(TypeDesc.func #[25, 25, 2] #[4, 2] false), false, 1, 8, [.raw .nilFunc], none, false, false⟩
theorem ti38_ok : TInfoOk Try.prog 38 ti38 := ⟨Try.underlying38, ⟨(.nilFunc), by kernel_rfl, rfl, rfl⟩, rfl, rfl, rfl, fun c h => (by first | (cases h; done) | (obtain rfl := Option.some.inj h; exact ⟨rfl, rfl, rfl⟩)), fun h => (by first | (cases h; done) | exact ⟨by kernel_rfl, by kernel_rfl, by kernel_rfl⟩)⟩
def ti40 : TInfo := ⟨(TypeDesc.func #[22] #[25, 2, 2, 2] false), false, 1, 8, [.raw .nilFunc], none, false, false⟩
theorem ti40_ok : TInfoOk Try.prog 40 ti40 := ⟨Try.underlying40, ⟨(.nilFunc), by kernel_rfl, rfl, rfl⟩, rfl, rfl, rfl, fun c h => (by first | (cases h; done) | (obtain rfl := Option.some.inj h; exact ⟨rfl, rfl, rfl⟩)), fun h => (by first | (cases h; done) | exact ⟨by kernel_rfl, by kernel_rfl, by kernel_rfl⟩)⟩
def ti41 : TInfo := ⟨(TypeDesc.func #[25, 2, 2, 2] #[27, 2] false), false, 1, 8, [.raw .nilFunc], none, false, false⟩
theorem ti41_ok : TInfoOk Try.prog 41 ti41 := ⟨Try.underlying41, ⟨(.nilFunc), by kernel_rfl, rfl, rfl⟩, rfl, rfl, rfl, fun c h => (by first | (cases h; done) | (obtain rfl := Option.some.inj h; exact ⟨rfl, rfl, rfl⟩)), fun h => (by first | (cases h; done) | exact ⟨by kernel_rfl, by kernel_rfl, by kernel_rfl⟩)⟩
def ti42 : TInfo := ⟨(TypeDesc.func #[43] #[2] false), false, 1, 8, [.raw .nilFunc], none, false, false⟩
theorem ti42_ok : TInfoOk Try.prog 42 ti42 := ⟨Try.underlying42, ⟨(.nilFunc), by kernel_rfl, rfl, rfl⟩, rfl, rfl, rfl, fun c h => (by first | (cases h; done) | (obtain rfl := Option.some.inj h; exact ⟨rfl, rfl, rfl⟩)), fun h => (by first | (cases h; done) | exact ⟨by kernel_rfl, by kernel_rfl, by kernel_rfl⟩)⟩
def ti43 : TInfo := ⟨(TypeDesc.slice 2), false, 1, 24, [.raw (.slice none 0 0)], none, false, false⟩
theorem ti43_ok : TInfoOk Try.prog 43 ti43 := ⟨Try.underlying43, ⟨((.slice none 0 0)), by kernel_rfl, rfl, rfl⟩, rfl, rfl, rfl, fun c h => (by first | (cases h; done) | (obtain rfl := Option.some.inj h; exact ⟨rfl, rfl, rfl⟩)), fun h => (by first | (cases h; done) | exact ⟨by kernel_rfl, by kernel_rfl, by kernel_rfl⟩)⟩
def ti44 : TInfo := ⟨(TypeDesc.func #[43, 43] #[4] false), false, 1, 8, [.raw .nilFunc], none, false, false⟩
theorem ti44_ok : TInfoOk Try.prog 44 ti44 := ⟨Try.underlying44, ⟨(.nilFunc), by kernel_rfl, rfl, rfl⟩, rfl, rfl, rfl, fun c h => (by first | (cases h; done) | (obtain rfl := Option.some.inj h; exact ⟨rfl, rfl, rfl⟩)), fun h => (by first | (cases h; done) | exact ⟨by kernel_rfl, by kernel_rfl, by kernel_rfl⟩)⟩
def ti45 : TInfo := ⟨(TypeDesc.func #[46] #[25] false), false, 1, 8, [.raw .nilFunc], none, false, false⟩
theorem ti45_ok : TInfoOk Try.prog 45 ti45 := ⟨Try.underlying45, ⟨(.nilFunc), by kernel_rfl, rfl, rfl⟩, rfl, rfl, rfl, fun c h => (by first | (cases h; done) | (obtain rfl := Option.some.inj h; exact ⟨rfl, rfl, rfl⟩)), fun h => (by first | (cases h; done) | exact ⟨by kernel_rfl, by kernel_rfl, by kernel_rfl⟩)⟩
def ti46 : TInfo := ⟨(TypeDesc.pointer 80), false, 1, 8, [.raw (.pointer none)], none, false, false⟩
theorem ti46_ok : TInfoOk Try.prog 46 ti46 := ⟨Try.underlying46, ⟨((.pointer none)), by kernel_rfl, rfl, rfl⟩, rfl, rfl, rfl, fun c h => (by first | (cases h; done) | (obtain rfl := Option.some.inj h; exact ⟨rfl, rfl, rfl⟩)), fun h => (by first | (cases h; done) | exact ⟨by kernel_rfl, by kernel_rfl, by kernel_rfl⟩)⟩
def ti47 : TInfo := ⟨(TypeDesc.func #[22] #[46] false), false, 1, 8, [.raw .nilFunc], none, false, false⟩
theorem ti47_ok : TInfoOk Try.prog 47 ti47 := ⟨Try.underlying47, ⟨(.nilFunc), by kernel_rfl, rfl, rfl⟩, rfl, rfl, rfl, fun c h => (by first | (cases h; done) | (obtain rfl := Option.some.inj h; exact ⟨rfl, rfl, rfl⟩)), fun h => (by first | (cases h; done) | exact ⟨by kernel_rfl, by kernel_rfl, by kernel_rfl⟩)⟩
def ti48 : TInfo := ⟨(TypeDesc.pointer 57), false, 1, 8, [.raw (.pointer none)], none, false, false⟩
theorem ti48_ok : TInfoOk Try.prog 48 ti48 := ⟨Try.underlying48, ⟨((.pointer none)), by kernel_rfl, rfl, rfl⟩, rfl, rfl, rfl, fun c h => (by first | (cases h; done) | (obtain rfl := Option.some.inj h; exact ⟨rfl, rfl, rfl⟩)), fun h => (by first | (cases h; done) | exact ⟨by kernel_rfl, by kernel_rfl, by kernel_rfl⟩)⟩
def ti50 : TInfo := ⟨(TypeDesc.func #[25, 4] #[48, 2] false), false, 1, 8, [.raw .nilFunc], none, false, false⟩
theorem ti50_ok : TInfoOk Try.prog 50 ti50 := ⟨Try.underlying50, ⟨(.nilFunc), by kernel_rfl, rfl, rfl⟩, rfl, rfl, rfl, fun c h => (by first | (cases h; done) | (obtain rfl := Option.some.inj h; exact ⟨rfl, rfl, rfl⟩)), fun h => (by first | (cases h; done) | exact ⟨by kernel_rfl, by kernel_rfl, by kernel_rfl⟩)⟩
def ti51 : TInfo := ⟨(TypeDesc.func #[] #[27] false), false, 1, 8, [.raw .nilFunc], none, false, false⟩
theorem ti51_ok : TInfoOk Try.prog 51 ti51 := ⟨Try.underlying51, ⟨(.nilFunc), by kernel_rfl, rfl, rfl⟩, rfl, rfl, rfl, fun c h => (by first | (cases h; done) | (obtain rfl := Option.some.inj h; exact ⟨rfl, rfl, rfl⟩)), fun h => (by first | (cases h; done) | exact ⟨by kernel_rfl, by kernel_rfl, by kernel_rfl⟩)⟩
def ti52 : TInfo := ⟨(TypeDesc.slice 25), false, 1, 24, [.raw (.slice none 0 0)], none, false, false⟩
theorem ti52_ok : TInfoOk Try.prog 52 ti52 := ⟨Try.underlying52, ⟨((.slice none 0 0)), by kernel_rfl, rfl, rfl⟩, rfl, rfl, rfl, fun c h => (by first | (cases h; done) | (obtain rfl := Option.some.inj h; exact ⟨rfl, rfl, rfl⟩)), fun h => (by first | (cases h; done) | exact ⟨by kernel_rfl, by kernel_rfl, by kernel_rfl⟩)⟩
def ti54 : TInfo := ⟨(TypeDesc.func #[25] #[52, 2] false), false, 1, 8, [.raw .nilFunc], none, false, false⟩
theorem ti54_ok : TInfoOk Try.prog 54 ti54 := ⟨Try.underlying54, ⟨(.nilFunc), by kernel_rfl, rfl, rfl⟩, rfl, rfl, rfl, fun c h => (by first | (cases h; done) | (obtain rfl := Option.some.inj h; exact ⟨rfl, rfl, rfl⟩)), fun h => (by first | (cases h; done) | exact ⟨by kernel_rfl, by kernel_rfl, by kernel_rfl⟩)⟩
def ti55 : TInfo := ⟨(TypeDesc.func #[52] #[27] false), false, 1, 8, [.raw .nilFunc], none, false, false⟩
theorem ti55_ok : TInfoOk Try.prog 55 ti55 := ⟨Try.underlying55, ⟨(.nilFunc), by kernel_rfl, rfl, rfl⟩, rfl, rfl, rfl, fun c h => (by first | (cases h; done) | (obtain rfl := Option.some.inj h; exact ⟨rfl, rfl, rfl⟩)), fun h => (by first | (cases h; done) | exact ⟨by kernel_rfl, by kernel_rfl, by kernel_rfl⟩)⟩
def ti56 : TInfo := ⟨(TypeDesc.struct #[{ name := "orbit", type := 52, offset := 0, embedded := false, tag := "", pkgPath := "loop.example/g01234/impl", byteOffset := 0 }, { name := "pairs", type := 27, offset := 1, embedded := false, tag := "", pkgPath := "loop.example/g01234/impl", byteOffset := 24 }]), true, 2, 48, [.raw (.slice none 0 0), .raw (.slice none 0 0)], none, false, false⟩
theorem ti56_ok : TInfoOk Try.prog 56 ti56 := ⟨Try.underlying56, ⟨(.agg #[(.slice none 0 0), (.slice none 0 0)]), by kernel_rfl, rfl, rfl⟩, rfl, rfl, rfl, fun c h => (by first | (cases h; done) | (obtain rfl := Option.some.inj h; exact ⟨rfl, rfl, rfl⟩)), fun h => (by first | (cases h; done) | exact ⟨by kernel_rfl, by kernel_rfl, by kernel_rfl⟩)⟩
def ti57 : TInfo := ⟨(TypeDesc.struct #[{ name := "orbit", type := 52, offset := 0, embedded := false, tag := "", pkgPath := "loop.example/g01234/impl", byteOffset := 0 }, { name := "pairs", type := 27, offset := 1, embedded := false, tag := "", pkgPath := "loop.example/g01234/impl", byteOffset := 24 }]), true, 2, 48, [.raw (.slice none 0 0), .raw (.slice none 0 0)], none, false, false⟩
theorem ti57_ok : TInfoOk Try.prog 57 ti57 := ⟨Try.underlying57, ⟨(.agg #[(.slice none 0 0), (.slice none 0 0)]), by kernel_rfl, rfl, rfl⟩, rfl, rfl, rfl, fun c h => (by first | (cases h; done) | (obtain rfl := Option.some.inj h; exact ⟨rfl, rfl, rfl⟩)), fun h => (by first | (cases h; done) | exact ⟨by kernel_rfl, by kernel_rfl, by kernel_rfl⟩)⟩
def ti58 : TInfo := ⟨(TypeDesc.func #[3] #[27] false), false, 1, 8, [.raw .nilFunc], none, false, false⟩
theorem ti58_ok : TInfoOk Try.prog 58 ti58 := ⟨Try.underlying58, ⟨(.nilFunc), by kernel_rfl, rfl, rfl⟩, rfl, rfl, rfl, fun c h => (by first | (cases h; done) | (obtain rfl := Option.some.inj h; exact ⟨rfl, rfl, rfl⟩)), fun h => (by first | (cases h; done) | exact ⟨by kernel_rfl, by kernel_rfl, by kernel_rfl⟩)⟩
def ti59 : TInfo := ⟨(TypeDesc.func #[27, 60] #[27] false), false, 1, 8, [.raw .nilFunc], none, false, false⟩
theorem ti59_ok : TInfoOk Try.prog 59 ti59 := ⟨Try.underlying59, ⟨(.nilFunc), by kernel_rfl, rfl, rfl⟩, rfl, rfl, rfl, fun c h => (by first | (cases h; done) | (obtain rfl := Option.some.inj h; exact ⟨rfl, rfl, rfl⟩)), fun h => (by first | (cases h; done) | exact ⟨by kernel_rfl, by kernel_rfl, by kernel_rfl⟩)⟩
def ti60 : TInfo := ⟨(TypeDesc.func #[43] #[4] false), false, 1, 8, [.raw .nilFunc], none, false, false⟩
theorem ti60_ok : TInfoOk Try.prog 60 ti60 := ⟨Try.underlying60, ⟨(.nilFunc), by kernel_rfl, rfl, rfl⟩, rfl, rfl, rfl, fun c h => (by first | (cases h; done) | (obtain rfl := Option.some.inj h; exact ⟨rfl, rfl, rfl⟩)), fun h => (by first | (cases h; done) | exact ⟨by kernel_rfl, by kernel_rfl, by kernel_rfl⟩)⟩
def ti61 : TInfo := ⟨(TypeDesc.func #[25, 25, 25] #[4] false), false, 1, 8, [.raw .nilFunc], none, false, false⟩
theorem ti61_ok : TInfoOk Try.prog 61 ti61 := ⟨Try.underlying61, ⟨(.nilFunc), by kernel_rfl, rfl, rfl⟩, rfl, rfl, rfl, fun c h => (by first | (cases h; done) | (obtain rfl := Option.some.inj h; exact ⟨rfl, rfl, rfl⟩)), fun h => (by first | (cases h; done) | exact ⟨by kernel_rfl, by kernel_rfl, by kernel_rfl⟩)⟩
def ti62 : TInfo := ⟨(TypeDesc.func #[46, 43] #[2] true), false, 1, 8, [.raw .nilFunc], none, false, false⟩
theorem ti62_ok : TInfoOk Try.prog 62 ti62 := ⟨Try.underlying62, ⟨(.nilFunc), by kernel_rfl, rfl, rfl⟩, rfl, rfl, rfl, fun c h => (by first | (cases h; done) | (obtain rfl := Option.some.inj h; exact ⟨rfl, rfl, rfl⟩)), fun h => (by first | (cases h; done) | exact ⟨by kernel_rfl, by kernel_rfl, by kernel_rfl⟩)⟩
def ti63 : TInfo := ⟨(TypeDesc.func #[46, 2] #[2] false), false, 1, 8, [.raw .nilFunc], none, false, false⟩
theorem ti63_ok : TInfoOk Try.prog 63 ti63 := ⟨Try.underlying63, ⟨(.nilFunc), by kernel_rfl, rfl, rfl⟩, rfl, rfl, rfl, fun c h => (by first | (cases h; done) | (obtain rfl := Option.some.inj h; exact ⟨rfl, rfl, rfl⟩)), fun h => (by first | (cases h; done) | exact ⟨by kernel_rfl, by kernel_rfl, by kernel_rfl⟩)⟩
def ti64 : TInfo := ⟨(TypeDesc.func #[2] #[4] false), false, 1, 8, [.raw .nilFunc], none, false, false⟩
theorem ti64_ok : TInfoOk Try.prog 64 ti64 := ⟨Try.underlying64, ⟨(.nilFunc), by kernel_rfl, rfl, rfl⟩, rfl, rfl, rfl, fun c h => (by first | (cases h; done) | (obtain rfl := Option.some.inj h; exact ⟨rfl, rfl, rfl⟩)), fun h => (by first | (cases h; done) | exact ⟨by kernel_rfl, by kernel_rfl, by kernel_rfl⟩)⟩
def ti65 : TInfo := ⟨(TypeDesc.func #[48, 2] #[27] false), false, 1, 8, [.raw .nilFunc], none, false, false⟩
theorem ti65_ok : TInfoOk Try.prog 65 ti65 := ⟨Try.underlying65, ⟨(.nilFunc), by kernel_rfl, rfl, rfl⟩, rfl, rfl, rfl, fun c h => (by first | (cases h; done) | (obtain rfl := Option.some.inj h; exact ⟨rfl, rfl, rfl⟩)), fun h => (by first | (cases h; done) | exact ⟨by kernel_rfl, by kernel_rfl, by kernel_rfl⟩)⟩
def ti66 : TInfo := ⟨(TypeDesc.func #[25, 2, 2] #[52, 2] false), false, 1, 8, [.raw .nilFunc], none, false, false⟩
theorem ti66_ok : TInfoOk Try.prog 66 ti66 := ⟨Try.underlying66, ⟨(.nilFunc), by kernel_rfl, rfl, rfl⟩, rfl, rfl, rfl, fun c h => (by first | (cases h; done) | (obtain rfl := Option.some.inj h; exact ⟨rfl, rfl, rfl⟩)), fun h => (by first | (cases h; done) | exact ⟨by kernel_rfl, by kernel_rfl, by kernel_rfl⟩)⟩
def ti67 : TInfo := ⟨(TypeDesc.func #[52, 2] #[2] false), false, 1, 8, [.raw .nilFunc], none, false, false⟩
theorem ti67_ok : TInfoOk Try.prog 67 ti67 := ⟨Try.underlying67, ⟨(.nilFunc), by kernel_rfl, rfl, rfl⟩, rfl, rfl, rfl, fun c h => (by first | (cases h; done) | (obtain rfl := Option.some.inj h; exact ⟨rfl, rfl, rfl⟩)), fun h => (by first | (cases h; done) | exact ⟨by kernel_rfl, by kernel_rfl, by kernel_rfl⟩)⟩
def ti68 : TInfo := ⟨(TypeDesc.func #[27] #[2] false), false, 1, 8, [.raw .nilFunc], none, false, false⟩
theorem ti68_ok : TInfoOk Try.prog 68 ti68 := ⟨Try.underlying68, ⟨(.nilFunc), by kernel_rfl, rfl, rfl⟩, rfl, rfl, rfl, fun c h => (by first | (cases h; done) | (obtain rfl := Option.some.inj h; exact ⟨rfl, rfl, rfl⟩)), fun h => (by first | (cases h; done) | exact ⟨by kernel_rfl, by kernel_rfl, by kernel_rfl⟩)⟩
def ti69 : TInfo := ⟨(TypeDesc.func #[27, 2] #[27] false), false, 1, 8, [.raw .nilFunc], none, false, false⟩
theorem ti69_ok : TInfoOk Try.prog 69 ti69 := ⟨Try.underlying69, ⟨(.nilFunc), by kernel_rfl, rfl, rfl⟩, rfl, rfl, rfl, fun c h => (by first | (cases h; done) | (obtain rfl := Option.some.inj h; exact ⟨rfl, rfl, rfl⟩)), fun h => (by first | (cases h; done) | exact ⟨by kernel_rfl, by kernel_rfl, by kernel_rfl⟩)⟩
def ti70 : TInfo := ⟨(TypeDesc.func #[52] #[2] true), false, 1, 8, [.raw .nilFunc], none, false, false⟩
theorem ti70_ok : TInfoOk Try.prog 70 ti70 := ⟨Try.underlying70, ⟨(.nilFunc), by kernel_rfl, rfl, rfl⟩, rfl, rfl, rfl, fun c h => (by first | (cases h; done) | (obtain rfl := Option.some.inj h; exact ⟨rfl, rfl, rfl⟩)), fun h => (by first | (cases h; done) | exact ⟨by kernel_rfl, by kernel_rfl, by kernel_rfl⟩)⟩
def ti71 : TInfo := ⟨(TypeDesc.func #[25] #[4] false), false, 1, 8, [.raw .nilFunc], none, false, false⟩
theorem ti71_ok : TInfoOk Try.prog 71 ti71 := ⟨Try.underlying71, ⟨(.nilFunc), by kernel_rfl, rfl, rfl⟩, rfl, rfl, rfl, fun c h => (by first | (cases h; done) | (obtain rfl := Option.some.inj h; exact ⟨rfl, rfl, rfl⟩)), fun h => (by first | (cases h; done) | exact ⟨by kernel_rfl, by kernel_rfl, by kernel_rfl⟩)⟩
def ti72 : TInfo := ⟨(TypeDesc.func #[2, 2, 2] #[4] false), false, 1, 8, [.raw .nilFunc], none, false, false⟩
theorem ti72_ok : TInfoOk Try.prog 72 ti72 := ⟨Try.underlying72, ⟨(.nilFunc), by kernel_rfl, rfl, rfl⟩, rfl, rfl, rfl, fun c h => (by first | (cases h; done) | (obtain rfl := Option.some.inj h; exact ⟨rfl, rfl, rfl⟩)), fun h => (by first | (cases h; done) | exact ⟨by kernel_rfl, by kernel_rfl, by kernel_rfl⟩)⟩
def ti73 : TInfo := ⟨(TypeDesc.func #[52] #[2] false), false, 1, 8, [.raw .nilFunc], none, false, false⟩
theorem ti73_ok : TInfoOk Try.prog 73 ti73 := ⟨Try.underlying73, ⟨(.nilFunc), by kernel_rfl, rfl, rfl⟩, rfl, rfl, rfl, fun c h => (by first | (cases h; done) | (obtain rfl := Option.some.inj h; exact ⟨rfl, rfl, rfl⟩)), fun h => (by first | (cases h; done) | exact ⟨by kernel_rfl, by kernel_rfl, by kernel_rfl⟩)⟩
def ti74 : TInfo := ⟨(TypeDesc.func #[25, 25] #[3] false), false, 1, 8, [.raw .nilFunc], none, false, false⟩
theorem ti74_ok : TInfoOk Try.prog 74 ti74 := ⟨Try.underlying74, ⟨(.nilFunc), by kernel_rfl, rfl, rfl⟩, rfl, rfl, rfl, fun c h => (by first | (cases h; done) | (obtain rfl := Option.some.inj h; exact ⟨rfl, rfl, rfl⟩)), fun h => (by first | (cases h; done) | exact ⟨by kernel_rfl, by kernel_rfl, by kernel_rfl⟩)⟩
def ti75 : TInfo := ⟨(TypeDesc.func #[27, 43, 2] #[27] false), false, 1, 8, [.raw .nilFunc], none, false, false⟩
theorem ti75_ok : TInfoOk Try.prog 75 ti75 := ⟨Try.underlying75, ⟨(.nilFunc), by kernel_rfl, rfl, rfl⟩, rfl, rfl, rfl, fun c h => (by first | (cases h; done) | (obtain rfl := Option.some.inj h; exact ⟨rfl, rfl, rfl⟩)), fun h => (by first | (cases h; done) | exact ⟨by kernel_rfl, by kernel_rfl, by kernel_rfl⟩)⟩
def ti76 : TInfo := ⟨(TypeDesc.func #[43, 27, 2, 2] #[] false), false, 1, 8, [.raw .nilFunc], none, false, false⟩
theorem ti76_ok : TInfoOk Try.prog 76 ti76 := ⟨Try.underlying76, ⟨(.nilFunc), by kernel_rfl, rfl, rfl⟩, rfl, rfl, rfl, fun c h => (by first | (cases h; done) | (obtain rfl := Option.some.inj h; exact ⟨rfl, rfl, rfl⟩)), fun h => (by first | (cases h; done) | exact ⟨by kernel_rfl, by kernel_rfl, by kernel_rfl⟩)⟩
def ti77 : TInfo := ⟨(TypeDesc.func #[2, 2] #[25] false), false, 1, 8, [.raw .nilFunc], none, false, false⟩
theorem ti77_ok : TInfoOk Try.prog 77 ti77 := ⟨Try.underlying77, ⟨(.nilFunc), by kernel_rfl, rfl, rfl⟩, rfl, rfl, rfl, fun c h => (by first | (cases h; done) | (obtain rfl := Option.some.inj h; exact ⟨rfl, rfl, rfl⟩)), fun h => (by first | (cases h; done) | exact ⟨by kernel_rfl, by kernel_rfl, by kernel_rfl⟩)⟩
def ti78 : TInfo := ⟨(TypeDesc.int IntKind.u64), false, 1, 8, [.int .u64 0], (some (.int .u64)), false, false⟩
theorem ti78_ok : TInfoOk Try.prog 78 ti78 := ⟨Try.underlying78, ⟨(.int .u64 0), by kernel_rfl, rfl, rfl⟩, rfl, rfl, rfl, fun c h => (by first | (cases h; done) | (obtain rfl := Option.some.inj h; exact ⟨rfl, rfl, rfl⟩)), fun h => (by first | (cases h; done) | exact ⟨by kernel_rfl, by kernel_rfl, by kernel_rfl⟩)⟩
def ti79 : TInfo := ⟨(TypeDesc.struct #[{ name := "code", type := 22, offset := 0, embedded := false, tag := "", pkgPath := "loop.example/g01234/spec", byteOffset := 0 }, { name := "at", type := 3, offset := 1, embedded := false, tag := "", pkgPath := "loop.example/g01234/spec", byteOffset := 24 }, { name := "hash", type := 78, offset := 2, embedded := false, tag := "", pkgPath := "loop.example/g01234/spec", byteOffset := 32 }]), true, 3, 40, [.raw (.slice none 0 0), .int .i64 0, .int .u64 0], none, false, false⟩
theorem ti79_ok : TInfoOk Try.prog 79 ti79 := ⟨Try.underlying79, ⟨(.agg #[(.slice none 0 0), .int .i64 0, .int .u64 0]), by kernel_rfl, rfl, rfl⟩, rfl, rfl, rfl, fun c h => (by first | (cases h; done) | (obtain rfl := Option.some.inj h; exact ⟨rfl, rfl, rfl⟩)), fun h => (by first | (cases h; done) | exact ⟨by kernel_rfl, by kernel_rfl, by kernel_rfl⟩)⟩
def ti80 : TInfo := ⟨(TypeDesc.struct #[{ name := "code", type := 22, offset := 0, embedded := false, tag := "", pkgPath := "loop.example/g01234/spec", byteOffset := 0 }, { name := "at", type := 3, offset := 1, embedded := false, tag := "", pkgPath := "loop.example/g01234/spec", byteOffset := 24 }, { name := "hash", type := 78, offset := 2, embedded := false, tag := "", pkgPath := "loop.example/g01234/spec", byteOffset := 32 }]), true, 3, 40, [.raw (.slice none 0 0), .int .i64 0, .int .u64 0], none, false, false⟩
theorem ti80_ok : TInfoOk Try.prog 80 ti80 := ⟨Try.underlying80, ⟨(.agg #[(.slice none 0 0), .int .i64 0, .int .u64 0]), by kernel_rfl, rfl, rfl⟩, rfl, rfl, rfl, fun c h => (by first | (cases h; done) | (obtain rfl := Option.some.inj h; exact ⟨rfl, rfl, rfl⟩)), fun h => (by first | (cases h; done) | exact ⟨by kernel_rfl, by kernel_rfl, by kernel_rfl⟩)⟩
def ti82 : TInfo := ⟨(TypeDesc.func #[] #[52, 3, 4] false), false, 1, 8, [.raw .nilFunc], none, false, false⟩
theorem ti82_ok : TInfoOk Try.prog 82 ti82 := ⟨Try.underlying82, ⟨(.nilFunc), by kernel_rfl, rfl, rfl⟩, rfl, rfl, rfl, fun c h => (by first | (cases h; done) | (obtain rfl := Option.some.inj h; exact ⟨rfl, rfl, rfl⟩)), fun h => (by first | (cases h; done) | exact ⟨by kernel_rfl, by kernel_rfl, by kernel_rfl⟩)⟩
def ti83 : TInfo := ⟨(TypeDesc.func #[25, 25] #[] false), false, 1, 8, [.raw .nilFunc], none, false, false⟩
theorem ti83_ok : TInfoOk Try.prog 83 ti83 := ⟨Try.underlying83, ⟨(.nilFunc), by kernel_rfl, rfl, rfl⟩, rfl, rfl, rfl, fun c h => (by first | (cases h; done) | (obtain rfl := Option.some.inj h; exact ⟨rfl, rfl, rfl⟩)), fun h => (by first | (cases h; done) | exact ⟨by kernel_rfl, by kernel_rfl, by kernel_rfl⟩)⟩
def ti84 : TInfo := ⟨(TypeDesc.func #[] #[25] false), false, 1, 8, [.raw .nilFunc], none, false, false⟩
theorem ti84_ok : TInfoOk Try.prog 84 ti84 := ⟨Try.underlying84, ⟨(.nilFunc), by kernel_rfl, rfl, rfl⟩, rfl, rfl, rfl, fun c h => (by first | (cases h; done) | (obtain rfl := Option.some.inj h; exact ⟨rfl, rfl, rfl⟩)), fun h => (by first | (cases h; done) | exact ⟨by kernel_rfl, by kernel_rfl, by kernel_rfl⟩)⟩
def ti86 : TInfo := ⟨(TypeDesc.func #[25] #[52, 2, 4] false), false, 1, 8, [.raw .nilFunc], none, false, false⟩
theorem ti86_ok : TInfoOk Try.prog 86 ti86 := ⟨Try.underlying86, ⟨(.nilFunc), by kernel_rfl, rfl, rfl⟩, rfl, rfl, rfl, fun c h => (by first | (cases h; done) | (obtain rfl := Option.some.inj h; exact ⟨rfl, rfl, rfl⟩)), fun h => (by first | (cases h; done) | exact ⟨by kernel_rfl, by kernel_rfl, by kernel_rfl⟩)⟩
def ti87 : TInfo := ⟨(TypeDesc.func #[52, 25] #[2] false), false, 1, 8, [.raw .nilFunc], none, false, false⟩
theorem ti87_ok : TInfoOk Try.prog 87 ti87 := ⟨Try.underlying87, ⟨(.nilFunc), by kernel_rfl, rfl, rfl⟩, rfl, rfl, rfl, fun c h => (by first | (cases h; done) | (obtain rfl := Option.some.inj h; exact ⟨rfl, rfl, rfl⟩)), fun h => (by first | (cases h; done) | exact ⟨by kernel_rfl, by kernel_rfl, by kernel_rfl⟩)⟩
def ti88 : TInfo := ⟨(TypeDesc.func #[25] #[25] false), false, 1, 8, [.raw .nilFunc], none, false, false⟩
theorem ti88_ok : TInfoOk Try.prog 88 ti88 := ⟨Try.underlying88, ⟨(.nilFunc), by kernel_rfl, rfl, rfl⟩, rfl, rfl, rfl, fun c h => (by first | (cases h; done) | (obtain rfl := Option.some.inj h; exact ⟨rfl, rfl, rfl⟩)), fun h => (by first | (cases h; done) | exact ⟨by kernel_rfl, by kernel_rfl, by kernel_rfl⟩)⟩
def ti89 : TInfo := ⟨(TypeDesc.func #[27, 60] #[3] false), false, 1, 8, [.raw .nilFunc], none, false, false⟩
theorem ti89_ok : TInfoOk Try.prog 89 ti89 := ⟨Try.underlying89, ⟨(.nilFunc), by kernel_rfl, rfl, rfl⟩, rfl, rfl, rfl, fun c h => (by first | (cases h; done) | (obtain rfl := Option.some.inj h; exact ⟨rfl, rfl, rfl⟩)), fun h => (by first | (cases h; done) | exact ⟨by kernel_rfl, by kernel_rfl, by kernel_rfl⟩)⟩
def ti90 : TInfo := ⟨(TypeDesc.func #[25, 25] #[5] false), false, 1, 8, [.raw .nilFunc], none, false, false⟩
theorem ti90_ok : TInfoOk Try.prog 90 ti90 := ⟨Try.underlying90, ⟨(.nilFunc), by kernel_rfl, rfl, rfl⟩, rfl, rfl, rfl, fun c h => (by first | (cases h; done) | (obtain rfl := Option.some.inj h; exact ⟨rfl, rfl, rfl⟩)), fun h => (by first | (cases h; done) | exact ⟨by kernel_rfl, by kernel_rfl, by kernel_rfl⟩)⟩
def ti91 : TInfo := ⟨(TypeDesc.int IntKind.u64), false, 1, 8, [.int .u64 0], (some (.int .u64)), false, false⟩
theorem ti91_ok : TInfoOk Try.prog 91 ti91 := ⟨Try.underlying91, ⟨(.int .u64 0), by kernel_rfl, rfl, rfl⟩, rfl, rfl, rfl, fun c h => (by first | (cases h; done) | (obtain rfl := Option.some.inj h; exact ⟨rfl, rfl, rfl⟩)), fun h => (by first | (cases h; done) | exact ⟨by kernel_rfl, by kernel_rfl, by kernel_rfl⟩)⟩
def ti92 : TInfo := ⟨(TypeDesc.func #[27, 27] #[27] false), false, 1, 8, [.raw .nilFunc], none, false, false⟩
theorem ti92_ok : TInfoOk Try.prog 92 ti92 := ⟨Try.underlying92, ⟨(.nilFunc), by kernel_rfl, rfl, rfl⟩, rfl, rfl, rfl, fun c h => (by first | (cases h; done) | (obtain rfl := Option.some.inj h; exact ⟨rfl, rfl, rfl⟩)), fun h => (by first | (cases h; done) | exact ⟨by kernel_rfl, by kernel_rfl, by kernel_rfl⟩)⟩
def ti93 : TInfo := ⟨(TypeDesc.func #[3, 2] #[27] false), false, 1, 8, [.raw .nilFunc], none, false, false⟩
theorem ti93_ok : TInfoOk Try.prog 93 ti93 := ⟨Try.underlying93, ⟨(.nilFunc), by kernel_rfl, rfl, rfl⟩, rfl, rfl, rfl, fun c h => (by first | (cases h; done) | (obtain rfl := Option.some.inj h; exact ⟨rfl, rfl, rfl⟩)), fun h => (by first | (cases h; done) | exact ⟨by kernel_rfl, by kernel_rfl, by kernel_rfl⟩)⟩
def ti94 : TInfo := ⟨(TypeDesc.func #[52, 71] #[4] false), false, 1, 8, [.raw .nilFunc], none, false, false⟩
theorem ti94_ok : TInfoOk Try.prog 94 ti94 := ⟨Try.underlying94, ⟨(.nilFunc), by kernel_rfl, rfl, rfl⟩, rfl, rfl, rfl, fun c h => (by first | (cases h; done) | (obtain rfl := Option.some.inj h; exact ⟨rfl, rfl, rfl⟩)), fun h => (by first | (cases h; done) | exact ⟨by kernel_rfl, by kernel_rfl, by kernel_rfl⟩)⟩
def ti95 : TInfo := ⟨(TypeDesc.func #[2, 2] #[2] false), false, 1, 8, [.raw .nilFunc], none, false, false⟩
theorem ti95_ok : TInfoOk Try.prog 95 ti95 := ⟨Try.underlying95, ⟨(.nilFunc), by kernel_rfl, rfl, rfl⟩, rfl, rfl, rfl, fun c h => (by first | (cases h; done) | (obtain rfl := Option.some.inj h; exact ⟨rfl, rfl, rfl⟩)), fun h => (by first | (cases h; done) | exact ⟨by kernel_rfl, by kernel_rfl, by kernel_rfl⟩)⟩
def ti96 : TInfo := ⟨(TypeDesc.func #[52, 25] #[3] false), false, 1, 8, [.raw .nilFunc], none, false, false⟩
theorem ti96_ok : TInfoOk Try.prog 96 ti96 := ⟨Try.underlying96, ⟨(.nilFunc), by kernel_rfl, rfl, rfl⟩, rfl, rfl, rfl, fun c h => (by first | (cases h; done) | (obtain rfl := Option.some.inj h; exact ⟨rfl, rfl, rfl⟩)), fun h => (by first | (cases h; done) | exact ⟨by kernel_rfl, by kernel_rfl, by kernel_rfl⟩)⟩
def ti97 : TInfo := ⟨(TypeDesc.func #[46, 25] #[25] false), false, 1, 8, [.raw .nilFunc], none, false, false⟩
theorem ti97_ok : TInfoOk Try.prog 97 ti97 := ⟨Try.underlying97, ⟨(.nilFunc), by kernel_rfl, rfl, rfl⟩, rfl, rfl, rfl, fun c h => (by first | (cases h; done) | (obtain rfl := Option.some.inj h; exact ⟨rfl, rfl, rfl⟩)), fun h => (by first | (cases h; done) | exact ⟨by kernel_rfl, by kernel_rfl, by kernel_rfl⟩)⟩
def ti98 : TInfo := ⟨(TypeDesc.func #[52, 71] #[3] false), false, 1, 8, [.raw .nilFunc], none, false, false⟩
theorem ti98_ok : TInfoOk Try.prog 98 ti98 := ⟨Try.underlying98, ⟨(.nilFunc), by kernel_rfl, rfl, rfl⟩, rfl, rfl, rfl, fun c h => (by first | (cases h; done) | (obtain rfl := Option.some.inj h; exact ⟨rfl, rfl, rfl⟩)), fun h => (by first | (cases h; done) | exact ⟨by kernel_rfl, by kernel_rfl, by kernel_rfl⟩)⟩
def ti99 : TInfo := ⟨(TypeDesc.func #[] #[9] false), false, 1, 8, [.raw .nilFunc], none, false, false⟩
theorem ti99_ok : TInfoOk Try.prog 99 ti99 := ⟨Try.underlying99, ⟨(.nilFunc), by kernel_rfl, rfl, rfl⟩, rfl, rfl, rfl, fun c h => (by first | (cases h; done) | (obtain rfl := Option.some.inj h; exact ⟨rfl, rfl, rfl⟩)), fun h => (by first | (cases h; done) | exact ⟨by kernel_rfl, by kernel_rfl, by kernel_rfl⟩)⟩
def ti105 : TInfo := ⟨(TypeDesc.func #[] #[3] false), false, 1, 8, [.raw .nilFunc], none, false, false⟩
theorem ti105_ok : TInfoOk Try.prog 105 ti105 := ⟨Try.underlying105, ⟨(.nilFunc), by kernel_rfl, rfl, rfl⟩, rfl, rfl, rfl, fun c h => (by first | (cases h; done) | (obtain rfl := Option.some.inj h; exact ⟨rfl, rfl, rfl⟩)), fun h => (by first | (cases h; done) | exact ⟨by kernel_rfl, by kernel_rfl, by kernel_rfl⟩)⟩
def ti106 : TInfo := ⟨(TypeDesc.int IntKind.u32), false, 1, 4, [.int .u32 0], (some (.int .u32)), false, false⟩
theorem ti106_ok : TInfoOk Try.prog 106 ti106 := ⟨Try.underlying106, ⟨(.int .u32 0), by kernel_rfl, rfl, rfl⟩, rfl, rfl, rfl, fun c h => (by first | (cases h; done) | (obtain rfl := Option.some.inj h; exact ⟨rfl, rfl, rfl⟩)), fun h => (by first | (cases h; done) | exact ⟨by kernel_rfl, by kernel_rfl, by kernel_rfl⟩)⟩
def ti110 : TInfo := ⟨(TypeDesc.pointer 5), false, 1, 8, [.raw (.pointer none)], none, false, false⟩
theorem ti110_ok : TInfoOk Try.prog 110 ti110 := ⟨Try.underlying110, ⟨((.pointer none)), by kernel_rfl, rfl, rfl⟩, rfl, rfl, rfl, fun c h => (by first | (cases h; done) | (obtain rfl := Option.some.inj h; exact ⟨rfl, rfl, rfl⟩)), fun h => (by first | (cases h; done) | exact ⟨by kernel_rfl, by kernel_rfl, by kernel_rfl⟩)⟩
def TL : List (TypeId × TInfo) := [(1, ti1), (2, ti2), (3, ti3), (4, ti4), (5, ti5), (9, ti9), (21, ti21), (22, ti22), (23, ti23), (24, ti24), (25, ti25), (26, ti26), (27, ti27), (29, ti29), (30, ti30), (32, ti32), (34, ti34), (36, ti36), (38, ti38), (40, ti40), (41, ti41), (42, ti42), (43, ti43), (44, ti44), (45, ti45), (46, ti46), (47, ti47), (48, ti48), (50, ti50), (51, ti51), (52, ti52), (54, ti54), (55, ti55), (56, ti56), (57, ti57), (58, ti58), (59, ti59), (60, ti60), (61, ti61), (62, ti62), (63, ti63), (64, ti64), (65, ti65), (66, ti66), (67, ti67), (68, ti68), (69, ti69), (70, ti70), (71, ti71), (72, ti72), (73, ti73), (74, ti74), (75, ti75), (76, ti76), (77, ti77), (78, ti78), (79, ti79), (80, ti80), (82, ti82), (83, ti83), (84, ti84), (86, ti86), (87, ti87), (88, ti88), (89, ti89), (90, ti90), (91, ti91), (92, ti92), (93, ti93), (94, ti94), (95, ti95), (96, ti96), (97, ti97), (98, ti98), (99, ti99), (105, ti105), (106, ti106), (110, ti110)]
def ti64w : TInfo := { ti2 with wf := true }
theorem ti64w_ok : TInfoOk Try.prog 2 ti64w := ⟨ti2_ok.und, ti2_ok.info, ti2_ok.agg, ti2_ok.flat, ti2_ok.zlen, ti2_ok.ty, ti2_ok.eqOk⟩
def TLW : List (TypeId × TInfo) := [(1, ti1), (2, ti64w), (3, ti3), (4, ti4), (5, ti5), (9, ti9), (21, ti21), (22, ti22), (23, ti23), (24, ti24), (25, ti25), (26, ti26), (27, ti27), (29, ti29), (30, ti30), (32, ti32), (34, ti34), (36, ti36), (38, ti38), (40, ti40), (41, ti41), (42, ti42), (43, ti43), (44, ti44), (45, ti45), (46, ti46), (47, ti47), (48, ti48), (50, ti50), (51, ti51), (52, ti52), (54, ti54), (55, ti55), (56, ti56), (57, ti57), (58, ti58), (59, ti59), (60, ti60), (61, ti61), (62, ti62), (63, ti63), (64, ti64), (65, ti65), (66, ti66), (67, ti67), (68, ti68), (69, ti69), (70, ti70), (71, ti71), (72, ti72), (73, ti73), (74, ti74), (75, ti75), (76, ti76), (77, ti77), (78, ti78), (79, ti79), (80, ti80), (82, ti82), (83, ti83), (84, ti84), (86, ti86), (87, ti87), (88, ti88), (89, ti89), (90, ti90), (91, ti91), (92, ti92), (93, ti93), (94, ti94), (95, ti95), (96, ti96), (97, ti97), (98, ti98), (99, ti99), (105, ti105), (106, ti106), (110, ti110)]
def TW : TypeId → Option TInfo := lookT TLW
theorem T_okW : TOk Try.prog TW := TOk.list (by
  intro p hp
  simp only [TLW, List.mem_cons, List.not_mem_nil, or_false] at hp
  rcases hp with rfl | rfl | rfl | rfl | rfl | rfl | rfl | rfl | rfl | rfl | rfl | rfl | rfl | rfl | rfl | rfl | rfl | rfl | rfl | rfl | rfl | rfl | rfl | rfl | rfl | rfl | rfl | rfl | rfl | rfl | rfl | rfl | rfl | rfl | rfl | rfl | rfl | rfl | rfl | rfl | rfl | rfl | rfl | rfl | rfl | rfl | rfl | rfl | rfl | rfl | rfl | rfl | rfl | rfl | rfl | rfl | rfl | rfl | rfl | rfl | rfl | rfl | rfl | rfl | rfl | rfl | rfl | rfl | rfl | rfl | rfl | rfl | rfl | rfl | rfl | rfl | rfl | rfl
  · exact ti1_ok
  · exact ti64w_ok
  · exact ti3_ok
  · exact ti4_ok
  · exact ti5_ok
  · exact ti9_ok
  · exact ti21_ok
  · exact ti22_ok
  · exact ti23_ok
  · exact ti24_ok
  · exact ti25_ok
  · exact ti26_ok
  · exact ti27_ok
  · exact ti29_ok
  · exact ti30_ok
  · exact ti32_ok
  · exact ti34_ok
  · exact ti36_ok
  · exact ti38_ok
  · exact ti40_ok
  · exact ti41_ok
  · exact ti42_ok
  · exact ti43_ok
  · exact ti44_ok
  · exact ti45_ok
  · exact ti46_ok
  · exact ti47_ok
  · exact ti48_ok
  · exact ti50_ok
  · exact ti51_ok
  · exact ti52_ok
  · exact ti54_ok
  · exact ti55_ok
  · exact ti56_ok
  · exact ti57_ok
  · exact ti58_ok
  · exact ti59_ok
  · exact ti60_ok
  · exact ti61_ok
  · exact ti62_ok
  · exact ti63_ok
  · exact ti64_ok
  · exact ti65_ok
  · exact ti66_ok
  · exact ti67_ok
  · exact ti68_ok
  · exact ti69_ok
  · exact ti70_ok
  · exact ti71_ok
  · exact ti72_ok
  · exact ti73_ok
  · exact ti74_ok
  · exact ti75_ok
  · exact ti76_ok
  · exact ti77_ok
  · exact ti78_ok
  · exact ti79_ok
  · exact ti80_ok
  · exact ti82_ok
  · exact ti83_ok
  · exact ti84_ok
  · exact ti86_ok
  · exact ti87_ok
  · exact ti88_ok
  · exact ti89_ok
  · exact ti90_ok
  · exact ti91_ok
  · exact ti92_ok
  · exact ti93_ok
  · exact ti94_ok
  · exact ti95_ok
  · exact ti96_ok
  · exact ti97_ok
  · exact ti98_ok
  · exact ti99_ok
  · exact ti105_ok
  · exact ti106_ok
  · exact ti110_ok)
def T : TypeId → Option TInfo := lookT TL
theorem T_ok : TOk Try.prog T := TOk.list (by
  intro p hp
  simp only [TL, List.mem_cons, List.not_mem_nil, or_false] at hp
  rcases hp with rfl | rfl | rfl | rfl | rfl | rfl | rfl | rfl | rfl | rfl | rfl | rfl | rfl | rfl | rfl | rfl | rfl | rfl | rfl | rfl | rfl | rfl | rfl | rfl | rfl | rfl | rfl | rfl | rfl | rfl | rfl | rfl | rfl | rfl | rfl | rfl | rfl | rfl | rfl | rfl | rfl | rfl | rfl | rfl | rfl | rfl | rfl | rfl | rfl | rfl | rfl | rfl | rfl | rfl | rfl | rfl | rfl | rfl | rfl | rfl | rfl | rfl | rfl | rfl | rfl | rfl | rfl | rfl | rfl | rfl | rfl | rfl | rfl | rfl | rfl | rfl | rfl | rfl
  · exact ti1_ok
  · exact ti2_ok
  · exact ti3_ok
  · exact ti4_ok
  · exact ti5_ok
  · exact ti9_ok
  · exact ti21_ok
  · exact ti22_ok
  · exact ti23_ok
  · exact ti24_ok
  · exact ti25_ok
  · exact ti26_ok
  · exact ti27_ok
  · exact ti29_ok
  · exact ti30_ok
  · exact ti32_ok
  · exact ti34_ok
  · exact ti36_ok
  · exact ti38_ok
  · exact ti40_ok
  · exact ti41_ok
  · exact ti42_ok
  · exact ti43_ok
  · exact ti44_ok
  · exact ti45_ok
  · exact ti46_ok
  · exact ti47_ok
  · exact ti48_ok
  · exact ti50_ok
  · exact ti51_ok
  · exact ti52_ok
  · exact ti54_ok
  · exact ti55_ok
  · exact ti56_ok
  · exact ti57_ok
  · exact ti58_ok
  · exact ti59_ok
  · exact ti60_ok
  · exact ti61_ok
  · exact ti62_ok
  · exact ti63_ok
  · exact ti64_ok
  · exact ti65_ok
  · exact ti66_ok
  · exact ti67_ok
  · exact ti68_ok
  · exact ti69_ok
  · exact ti70_ok
  · exact ti71_ok
  · exact ti72_ok
  · exact ti73_ok
  · exact ti74_ok
  · exact ti75_ok
  · exact ti76_ok
  · exact ti77_ok
  · exact ti78_ok
  · exact ti79_ok
  · exact ti80_ok
  · exact ti82_ok
  · exact ti83_ok
  · exact ti84_ok
  · exact ti86_ok
  · exact ti87_ok
  · exact ti88_ok
  · exact ti89_ok
  · exact ti90_ok
  · exact ti91_ok
  · exact ti92_ok
  · exact ti93_ok
  · exact ti94_ok
  · exact ti95_ok
  · exact ti96_ok
  · exact ti97_ok
  · exact ti98_ok
  · exact ti99_ok
  · exact ti105_ok
  · exact ti106_ok
  · exact ti110_ok)
end Go.Proofs.Ytllagpbbbdekiab.Fw
