/- What is known of the data types of this seat's program. Written by a program of this session (gen_types.py) out of Lean's own print of the program's types. -/
import Derived.Test.YtllagpbbbdekiacGA
import Derived.Test.YtllagpbbbdekiacProg
namespace Go.Proofs.Ytllagpbbbdekiac.Fw
open Go
set_option maxRecDepth 100000
def ti1 : TInfo := ⟨(TypeDesc.func #[] #[] false), false, 1, 8, [.raw .nilFunc], none, false, false⟩
theorem ti1_ok : TInfoOk Try.prog 1 ti1 := ⟨Try.underlying1, ⟨(.nilFunc), by kernel_rfl, rfl, rfl⟩, rfl, rfl, rfl, fun c h => (by first | (cases h; done) | (obtain rfl := Option.some.inj h; exact ⟨rfl, rfl, rfl⟩)), fun h => (by first | (cases h; done) | exact ⟨by kernel_rfl, by kernel_rfl, by kernel_rfl⟩)⟩
def ti2 : TInfo := ⟨(TypeDesc.int IntKind.i64), false, 1, 8, [.int .i64 0], (some (.int .i64)), false, false⟩
theorem ti2_ok : TInfoOk Try.prog 2 ti2 := ⟨Try.underlying2, ⟨(.int .i64 0), by kernel_rfl, rfl, rfl⟩, rfl, rfl, rfl, fun c h => (by first | (cases h; done) | (obtain rfl := Option.some.inj h; exact ⟨rfl, rfl, rfl⟩)), fun h => (by first | (cases h; done) | exact ⟨by kernel_rfl, by kernel_rfl, by kernel_rfl⟩)⟩
def ti3 : TInfo := ⟨(TypeDesc.int IntKind.i64), false, 1, 8, [.int .i64 0], (some (.int .i64)), false, false⟩
theorem ti3_ok : TInfoOk Try.prog 3 ti3 := ⟨Try.underlying3, ⟨(.int .i64 0), by kernel_rfl, rfl, rfl⟩, rfl, rfl, rfl, fun c h => (by first | (cases h; done) | (obtain rfl := Option.some.inj h; exact ⟨rfl, rfl, rfl⟩)), fun h => (by first | (cases h; done) | exact ⟨by kernel_rfl, by kernel_rfl, by kernel_rfl⟩)⟩
def ti4 : TInfo := ⟨TypeDesc.bool, false, 1, 1, [.bool false], (some (.bool)), false, false⟩
theorem ti4_ok : TInfoOk Try.prog 4 ti4 := ⟨Try.underlying4, ⟨(.bool false), by kernel_rfl, rfl, rfl⟩, rfl, rfl, rfl, fun c h => (by first | (cases h; done) | (obtain rfl := Option.some.inj h; exact ⟨rfl, rfl, rfl⟩)), fun h => (by first | (cases h; done) | exact ⟨by kernel_rfl, by kernel_rfl, by kernel_rfl⟩)⟩
def ti5 : TInfo := ⟨(TypeDesc.int IntKind.u8), false, 1, 1, [.int .u8 0], (some (.int .u8)), false, false⟩
theorem ti5_ok : TInfoOk Try.prog 5 ti5 := ⟨Try.underlying5, ⟨(.int .u8 0), by kernel_rfl, rfl, rfl⟩, rfl, rfl, rfl, fun c h => (by first | (cases h; done) | (obtain rfl := Option.some.inj h; exact ⟨rfl, rfl, rfl⟩)), fun h => (by first | (cases h; done) | exact ⟨by kernel_rfl, by kernel_rfl, by kernel_rfl⟩)⟩
def ti9 : TInfo := ⟨TypeDesc.string, false, 1, 16, [.str ByteArray.empty], (some (.str)), false, false⟩
theorem ti9_ok : TInfoOk Try.prog 9 ti9 := ⟨Try.underlying9, ⟨(.string ByteArray.empty), by kernel_rfl, rfl, rfl⟩, rfl, rfl, rfl, fun c h => (by first | (cases h; done) | (obtain rfl := Option.some.inj h; exact ⟨rfl, rfl, rfl⟩)), fun h => (by first | (cases h; done) | exact ⟨by kernel_rfl, by kernel_rfl, by kernel_rfl⟩)⟩
def ti21 : TInfo := ⟨(TypeDesc.int IntKind.i32), false, 1, 4, [.int .i32 0], (some (.int .i32)), false, false⟩
theorem ti21_ok : TInfoOk Try.prog 21 ti21 := ⟨Try.underlying21, ⟨(.int .i32 0), by kernel_rfl, rfl, rfl⟩, rfl, rfl, rfl, fun c h => (by first | (cases h; done) | (obtain rfl := Option.some.inj h; exact ⟨rfl, rfl, rfl⟩)), fun h => (by first | (cases h; done) | exact ⟨by kernel_rfl, by kernel_rfl, by kernel_rfl⟩)⟩
def ti22 : TInfo := ⟨(TypeDesc.slice 5), false, 1, 24, [.raw (.slice none 0 0)], none, false, false⟩
theorem ti22_ok : TInfoOk Try.prog 22 ti22 := ⟨Try.underlying22, ⟨((.slice none 0 0)), by kernel_rfl, rfl, rfl⟩, rfl, rfl, rfl, fun c h => (by first | (cases h; done) | (obtain rfl := Option.some.inj h; exact ⟨rfl, rfl, rfl⟩)), fun h => (by first | (cases h; done) | exact ⟨by kernel_rfl, by kernel_rfl, by kernel_rfl⟩)⟩
def ti23 : TInfo := ⟨(TypeDesc.func #[22] #[4] false), false, 1, 8, [.raw .nilFunc], none, false, false⟩
theorem ti23_ok : TInfoOk Try.prog 23 ti23 := ⟨Try.underlying23, ⟨(.nilFunc), by kernel_rfl, rfl, rfl⟩, rfl, rfl, rfl, fun c h => (by first | (cases h; done) | (obtain rfl := Option.some.inj h; exact ⟨rfl, rfl, rfl⟩)), fun h => (by first | (cases h; done) | exact ⟨by kernel_rfl, by kernel_rfl, by kernel_rfl⟩)⟩
def ti24 : TInfo := ⟨(TypeDesc.struct #[{ name := "Num", type := 2, offset := 0, embedded := false, tag := "", pkgPath := "", byteOffset := 0 }, { name := "Den", type := 2, offset := 1, embedded := false, tag := "", pkgPath := "", byteOffset := 8 }]), true, 2, 16, [.int .i64 0, .int .i64 0], (some (.pair (.int .i64) (.int .i64))), true, false⟩
theorem ti24_ok : TInfoOk Try.prog 24 ti24 := ⟨Try.underlying24, ⟨(.agg #[.int .i64 0, .int .i64 0]), by kernel_rfl, rfl, rfl⟩, rfl, rfl, rfl, fun c h => (by first | (cases h; done) | (obtain rfl := Option.some.inj h; exact ⟨rfl, rfl, rfl⟩)), fun h => (by first | (cases h; done) | exact ⟨by kernel_rfl, by kernel_rfl, by kernel_rfl⟩)⟩
def ti25 : TInfo := ⟨(TypeDesc.struct #[{ name := "Num", type := 2, offset := 0, embedded := false, tag := "", pkgPath := "", byteOffset := 0 }, { name := "Den", type := 2, offset := 1, embedded := false, tag := "", pkgPath := "", byteOffset := 8 }]), true, 2, 16, [.int .i64 0, .int .i64 0], (some (.pair (.int .i64) (.int .i64))), true, false⟩
theorem ti25_ok : TInfoOk Try.prog 25 ti25 := ⟨Try.underlying25, ⟨(.agg #[.int .i64 0, .int .i64 0]), by kernel_rfl, rfl, rfl⟩, rfl, rfl, rfl, fun c h => (by first | (cases h; done) | (obtain rfl := Option.some.inj h; exact ⟨rfl, rfl, rfl⟩)), fun h => (by first | (cases h; done) | exact ⟨by kernel_rfl, by kernel_rfl, by kernel_rfl⟩)⟩
def ti27 : TInfo := ⟨(TypeDesc.func #[22] #[25, 2] false), false, 1, 8, [.raw .nilFunc], none, false, false⟩
theorem ti27_ok : TInfoOk Try.prog 27 ti27 := ⟨Try.underlying27, ⟨(.nilFunc), by kernel_rfl, rfl, rfl⟩, rfl, rfl, rfl, fun c h => (by first | (cases h; done) | (obtain rfl := Option.some.inj h; exact ⟨rfl, rfl, rfl⟩)), fun h => (by first | (cases h; done) | exact ⟨by kernel_rfl, by kernel_rfl, by kernel_rfl⟩)⟩
def ti28 : TInfo := ⟨(TypeDesc.slice 41), false, 1, 24, [.raw (.slice none 0 0)], none, false, false⟩
theorem ti28_ok : TInfoOk Try.prog 28 ti28 := ⟨Try.underlying28, ⟨((.slice none 0 0)), by kernel_rfl, rfl, rfl⟩, rfl, rfl, rfl, fun c h => (by first | (cases h; done) | (obtain rfl := Option.some.inj h; exact ⟨rfl, rfl, rfl⟩)), fun h => (by first | (cases h; done) | exact ⟨by kernel_rfl, by kernel_rfl, by kernel_rfl⟩)⟩
def ti30 : TInfo := ⟨(TypeDesc.func #[25, 2] #[28, 2] false), false, 1, 8, [.raw .nilFunc], none, false, false⟩
theorem ti30_ok : TInfoOk Try.prog 30 ti30 := ⟨Try.underlying30, ⟨(.nilFunc), by kernel_rfl, rfl, rfl⟩, rfl, rfl, rfl, fun c h => (by first | (cases h; done) | (obtain rfl := Option.some.inj h; exact ⟨rfl, rfl, rfl⟩)), fun h => (by first | (cases h; done) | exact ⟨by kernel_rfl, by kernel_rfl, by kernel_rfl⟩)⟩
def ti31 : TInfo := ⟨(TypeDesc.func #[28, 28] #[4] false), false, 1, 8, [.raw .nilFunc], none, false, false⟩
theorem ti31_ok : TInfoOk Try.prog 31 ti31 := ⟨Try.underlying31, ⟨(.nilFunc), by kernel_rfl, rfl, rfl⟩, rfl, rfl, rfl, fun c h => (by first | (cases h; done) | (obtain rfl := Option.some.inj h; exact ⟨rfl, rfl, rfl⟩)), fun h => (by first | (cases h; done) | exact ⟨by kernel_rfl, by kernel_rfl, by kernel_rfl⟩)⟩
def ti33 : TInfo := ⟨(TypeDesc.func #[22] #[25, 25, 2] false), false, 1, 8, [.raw .nilFunc], none, false, false⟩
theorem ti33_ok : TInfoOk Try.prog 33 ti33 := ⟨Try.underlying33, ⟨(.nilFunc), by kernel_rfl, rfl, rfl⟩, rfl, rfl, rfl, fun c h => (by first | (cases h; done) | (obtain rfl := Option.some.inj h; exact ⟨rfl, rfl, rfl⟩)), fun h => (by first | (cases h; done) | exact ⟨by kernel_rfl, by kernel_rfl, by kernel_rfl⟩)⟩
def ti34 : TInfo := ⟨(TypeDesc.func #[25, 25, 2] #[28, 2] false), false, 1, 8, [.raw .nilFunc], none, false, false⟩
theorem ti34_ok : TInfoOk Try.prog 34 ti34 := ⟨Try.underlying34, ⟨(.nilFunc), by kernel_rfl, rfl, rfl⟩, rfl, rfl, rfl, fun c h => (by first | (cases h; done) | (obtain rfl := Option.some.inj h; exact ⟨rfl, rfl, rfl⟩)), fun h => (by first | (cases h; done) | exact ⟨by kernel_rfl, by kernel_rfl, by kernel_rfl⟩)⟩
def ti36 : TInfo := ⟨(TypeDesc.func #[22] #[25, 25, 2, 2, 2] false), false, 1, 8, [.raw .nilFunc], none, false, false⟩
theorem ti36_ok : TInfoOk Try.prog 36 ti36 := ⟨Try.underlying36, ⟨(.nilFunc), by kernel_rfl, rfl, rfl⟩, rfl, rfl, rfl, fun c h => (by first | (cases h; done) | (obtain rfl := Option.some.inj h; exact ⟨rfl, rfl, rfl⟩)), fun h => (by first | (cases h; done) | exact ⟨by kernel_rfl, by kernel_rfl, by kernel_rfl⟩)⟩
def ti38 : TInfo := ⟨(TypeDesc.func #[25, 25, 2, 2, 2] #[4, 2] false), false, 1, 8, [.raw .nilFunc], none, false, false⟩
theorem ti38_ok : TInfoOk Try.prog 38 ti38 := ⟨Try.underlying38, ⟨(.nilFunc), by kernel_rfl, rfl, rfl⟩, rfl, rfl, rfl, fun c h => (by first | (cases h; done) | (obtain rfl := Option.some.inj h; exact ⟨rfl, rfl, rfl⟩)), fun h => (by first | (cases h; done) | exact ⟨by kernel_rfl, by kernel_rfl, by kernel_rfl⟩)⟩
def ti40 : TInfo := ⟨(TypeDesc.func #[25, 25, 2] #[2, 2] false), false, 1, 8, [.raw .nilFunc], none, false, false⟩
theorem ti40_ok : TInfoOk Try.prog 40 ti40 := ⟨Try.underlying40, ⟨(.nilFunc), by kernel_rfl, rfl, rfl⟩, rfl, rfl, rfl, fun c h => (by first | (cases h; done) | (obtain rfl := Option.some.inj h; exact ⟨rfl, rfl, rfl⟩)), fun h => (by first | (cases h; done) | exact ⟨by kernel_rfl, by kernel_rfl, by kernel_rfl⟩)⟩
def ti41 : TInfo := ⟨(TypeDesc.slice 2), false, 1, 24, [.raw (.slice none 0 0)], none, false, false⟩
theorem ti41_ok : TInfoOk Try.prog 41 ti41 := ⟨Try.underlying41, ⟨((.slice none 0 0)), by kernel_rfl, rfl, rfl⟩, rfl, rfl, rfl, fun c h => (by first | (cases h; done) | (obtain rfl := Option.some.inj h; exact ⟨rfl, rfl, rfl⟩)), fun h => (by first | (cases h; done) | exact ⟨by kernel_rfl, by kernel_rfl, by kernel_rfl⟩)⟩
def ti43 : TInfo := ⟨(TypeDesc.func #[25, 2] #[41, 2] false), false, 1, 8, [.raw .nilFunc], none, false, false⟩
theorem ti43_ok : TInfoOk Try.prog 43 ti43 := ⟨Try.underlying43, ⟨(.nilFunc), by kernel_rfl, rfl, rfl⟩, rfl, rfl, rfl, fun c h => (by first | (cases h; done) | (obtain rfl := Option.some.inj h; exact ⟨rfl, rfl, rfl⟩)), fun h => (by first | (cases h; done) | exact ⟨by kernel_rfl, by kernel_rfl, by kernel_rfl⟩)⟩
def ti44 : TInfo := ⟨(TypeDesc.func #[41, 41] #[4] false), false, 1, 8, [.raw .nilFunc], none, false, false⟩
theorem ti44_ok : TInfoOk Try.prog 44 ti44 := ⟨Try.underlying44, ⟨(.nilFunc), by kernel_rfl, rfl, rfl⟩, rfl, rfl, rfl, fun c h => (by first | (cases h; done) | (obtain rfl := Option.some.inj h; exact ⟨rfl, rfl, rfl⟩)), fun h => (by first | (cases h; done) | exact ⟨by kernel_rfl, by kernel_rfl, by kernel_rfl⟩)⟩
def ti45 : TInfo := ⟨(TypeDesc.func #[2, 2] #[25, 2] false), false, 1, 8, [.raw .nilFunc], none, false, false⟩
theorem ti45_ok : TInfoOk Try.prog 45 ti45 := ⟨Try.underlying45, ⟨(.nilFunc), by kernel_rfl, rfl, rfl⟩, rfl, rfl, rfl, fun c h => (by first | (cases h; done) | (obtain rfl := Option.some.inj h; exact ⟨rfl, rfl, rfl⟩)), fun h => (by first | (cases h; done) | exact ⟨by kernel_rfl, by kernel_rfl, by kernel_rfl⟩)⟩
def ti47 : TInfo := ⟨(TypeDesc.func #[25, 25] #[9, 2] false), false, 1, 8, [.raw .nilFunc], none, false, false⟩
theorem ti47_ok : TInfoOk Try.prog 47 ti47 := ⟨Try.underlying47, ⟨(.nilFunc), by kernel_rfl, rfl, rfl⟩, rfl, rfl, rfl, fun c h => (by first | (cases h; done) | (obtain rfl := Option.some.inj h; exact ⟨rfl, rfl, rfl⟩)), fun h => (by first | (cases h; done) | exact ⟨by kernel_rfl, by kernel_rfl, by kernel_rfl⟩)⟩
def ti48 : TInfo := ⟨(TypeDesc.func #[49] #[25, 2] false), false, 1, 8, [.raw .nilFunc], none, false, false⟩
theorem ti48_ok : TInfoOk Try.prog 48 ti48 := ⟨Try.underlying48, ⟨(.nilFunc), by kernel_rfl, rfl, rfl⟩, rfl, rfl, rfl, fun c h => (by first | (cases h; done) | (obtain rfl := Option.some.inj h; exact ⟨rfl, rfl, rfl⟩)), fun h => (by first | (cases h; done) | exact ⟨by kernel_rfl, by kernel_rfl, by kernel_rfl⟩)⟩
def ti49 : TInfo := ⟨(TypeDesc.pointer 77), false, 1, 8, [.raw (.pointer none)], none, false, false⟩
theorem ti49_ok : TInfoOk Try.prog 49 ti49 := ⟨Try.underlying49, ⟨((.pointer none)), by kernel_rfl, rfl, rfl⟩, rfl, rfl, rfl, fun c h => (by first | (cases h; done) | (obtain rfl := Option.some.inj h; exact ⟨rfl, rfl, rfl⟩)), fun h => (by first | (cases h; done) | exact ⟨by kernel_rfl, by kernel_rfl, by kernel_rfl⟩)⟩
def ti50 : TInfo := ⟨(TypeDesc.func #[22] #[49] false), false, 1, 8, [.raw .nilFunc], none, false, false⟩
theorem ti50_ok : TInfoOk Try.prog 50 ti50 := ⟨Try.underlying50, ⟨(.nilFunc), by kernel_rfl, rfl, rfl⟩, rfl, rfl, rfl, fun c h => (by first | (cases h; done) | (obtain rfl := Option.some.inj h; exact ⟨rfl, rfl, rfl⟩)), fun h => (by first | (cases h; done) | exact ⟨by kernel_rfl, by kernel_rfl, by kernel_rfl⟩)⟩
def ti51 : TInfo := ⟨(TypeDesc.func #[4, 78] #[2] true), false, 1, 8, [.raw .nilFunc], none, false, false⟩
theorem ti51_ok : TInfoOk Try.prog 51 ti51 := ⟨Try.underlying51, ⟨(.nilFunc), by kernel_rfl, rfl, rfl⟩, rfl, rfl, rfl, fun c h => (by first | (cases h; done) | (obtain rfl := Option.some.inj h; exact ⟨rfl, rfl, rfl⟩)), fun h => (by first | (cases h; done) | exact ⟨by kernel_rfl, by kernel_rfl, by kernel_rfl⟩)⟩
def ti52 : TInfo := ⟨(TypeDesc.func #[2] #[4] false), false, 1, 8, [.raw .nilFunc], none, false, false⟩
theorem ti52_ok : TInfoOk Try.prog 52 ti52 := ⟨Try.underlying52, ⟨(.nilFunc), by kernel_rfl, rfl, rfl⟩, rfl, rfl, rfl, fun c h => (by first | (cases h; done) | (obtain rfl := Option.some.inj h; exact ⟨rfl, rfl, rfl⟩)), fun h => (by first | (cases h; done) | exact ⟨by kernel_rfl, by kernel_rfl, by kernel_rfl⟩)⟩
def ti53 : TInfo := ⟨(TypeDesc.func #[25, 2] #[28] false), false, 1, 8, [.raw .nilFunc], none, false, false⟩
theorem ti53_ok : TInfoOk Try.prog 53 ti53 := ⟨Try.underlying53, ⟨(.nilFunc), by kernel_rfl, rfl, rfl⟩, rfl, rfl, rfl, fun c h => (by first | (cases h; done) | (obtain rfl := Option.some.inj h; exact ⟨rfl, rfl, rfl⟩)), fun h => (by first | (cases h; done) | exact ⟨by kernel_rfl, by kernel_rfl, by kernel_rfl⟩)⟩
def ti54 : TInfo := ⟨(TypeDesc.func #[2, 78] #[2] true), false, 1, 8, [.raw .nilFunc], none, false, false⟩
theorem ti54_ok : TInfoOk Try.prog 54 ti54 := ⟨Try.underlying54, ⟨(.nilFunc), by kernel_rfl, rfl, rfl⟩, rfl, rfl, rfl, fun c h => (by first | (cases h; done) | (obtain rfl := Option.some.inj h; exact ⟨rfl, rfl, rfl⟩)), fun h => (by first | (cases h; done) | exact ⟨by kernel_rfl, by kernel_rfl, by kernel_rfl⟩)⟩
def ti56 : TInfo := ⟨(TypeDesc.func #[2, 78] #[41, 4] true), false, 1, 8, [.raw .nilFunc], none, false, false⟩
theorem ti56_ok : TInfoOk Try.prog 56 ti56 := ⟨Try.underlying56, ⟨(.nilFunc), by kernel_rfl, rfl, rfl⟩, rfl, rfl, rfl, fun c h => (by first | (cases h; done) | (obtain rfl := Option.some.inj h; exact ⟨rfl, rfl, rfl⟩)), fun h => (by first | (cases h; done) | exact ⟨by kernel_rfl, by kernel_rfl, by kernel_rfl⟩)⟩
def ti57 : TInfo := ⟨(TypeDesc.func #[41] #[28] false), false, 1, 8, [.raw .nilFunc], none, false, false⟩
theorem ti57_ok : TInfoOk Try.prog 57 ti57 := ⟨Try.underlying57, ⟨(.nilFunc), by kernel_rfl, rfl, rfl⟩, rfl, rfl, rfl, fun c h => (by first | (cases h; done) | (obtain rfl := Option.some.inj h; exact ⟨rfl, rfl, rfl⟩)), fun h => (by first | (cases h; done) | exact ⟨by kernel_rfl, by kernel_rfl, by kernel_rfl⟩)⟩
def ti58 : TInfo := ⟨(TypeDesc.func #[49] #[25] false), false, 1, 8, [.raw .nilFunc], none, false, false⟩
theorem ti58_ok : TInfoOk Try.prog 58 ti58 := ⟨Try.underlying58, ⟨(.nilFunc), by kernel_rfl, rfl, rfl⟩, rfl, rfl, rfl, fun c h => (by first | (cases h; done) | (obtain rfl := Option.some.inj h; exact ⟨rfl, rfl, rfl⟩)), fun h => (by first | (cases h; done) | exact ⟨by kernel_rfl, by kernel_rfl, by kernel_rfl⟩)⟩
def ti59 : TInfo := ⟨(TypeDesc.func #[49, 2] #[2] false), false, 1, 8, [.raw .nilFunc], none, false, false⟩
theorem ti59_ok : TInfoOk Try.prog 59 ti59 := ⟨Try.underlying59, ⟨(.nilFunc), by kernel_rfl, rfl, rfl⟩, rfl, rfl, rfl, fun c h => (by first | (cases h; done) | (obtain rfl := Option.some.inj h; exact ⟨rfl, rfl, rfl⟩)), fun h => (by first | (cases h; done) | exact ⟨by kernel_rfl, by kernel_rfl, by kernel_rfl⟩)⟩
def ti60 : TInfo := ⟨(TypeDesc.func #[25] #[4] false), false, 1, 8, [.raw .nilFunc], none, false, false⟩
theorem ti60_ok : TInfoOk Try.prog 60 ti60 := ⟨Try.underlying60, ⟨(.nilFunc), by kernel_rfl, rfl, rfl⟩, rfl, rfl, rfl, fun c h => (by first | (cases h; done) | (obtain rfl := Option.some.inj h; exact ⟨rfl, rfl, rfl⟩)), fun h => (by first | (cases h; done) | exact ⟨by kernel_rfl, by kernel_rfl, by kernel_rfl⟩)⟩
def ti61 : TInfo := ⟨(TypeDesc.func #[25] #[25] false), false, 1, 8, [.raw .nilFunc], none, false, false⟩
theorem ti61_ok : TInfoOk Try.prog 61 ti61 := ⟨Try.underlying61, ⟨(.nilFunc), by kernel_rfl, rfl, rfl⟩, rfl, rfl, rfl, fun c h => (by first | (cases h; done) | (obtain rfl := Option.some.inj h; exact ⟨rfl, rfl, rfl⟩)), fun h => (by first | (cases h; done) | exact ⟨by kernel_rfl, by kernel_rfl, by kernel_rfl⟩)⟩
def ti62 : TInfo := ⟨(TypeDesc.func #[25, 25, 2] #[28] false), false, 1, 8, [.raw .nilFunc], none, false, false⟩
theorem ti62_ok : TInfoOk Try.prog 62 ti62 := ⟨Try.underlying62, ⟨(.nilFunc), by kernel_rfl, rfl, rfl⟩, rfl, rfl, rfl, fun c h => (by first | (cases h; done) | (obtain rfl := Option.some.inj h; exact ⟨rfl, rfl, rfl⟩)), fun h => (by first | (cases h; done) | exact ⟨by kernel_rfl, by kernel_rfl, by kernel_rfl⟩)⟩
def ti63 : TInfo := ⟨(TypeDesc.func #[2, 2, 2] #[4] false), false, 1, 8, [.raw .nilFunc], none, false, false⟩
theorem ti63_ok : TInfoOk Try.prog 63 ti63 := ⟨Try.underlying63, ⟨(.nilFunc), by kernel_rfl, rfl, rfl⟩, rfl, rfl, rfl, fun c h => (by first | (cases h; done) | (obtain rfl := Option.some.inj h; exact ⟨rfl, rfl, rfl⟩)), fun h => (by first | (cases h; done) | exact ⟨by kernel_rfl, by kernel_rfl, by kernel_rfl⟩)⟩
def ti64 : TInfo := ⟨(TypeDesc.func #[28, 66] #[4] false), false, 1, 8, [.raw .nilFunc], none, false, false⟩
theorem ti64_ok : TInfoOk Try.prog 64 ti64 := ⟨Try.underlying64, ⟨(.nilFunc), by kernel_rfl, rfl, rfl⟩, rfl, rfl, rfl, fun c h => (by first | (cases h; done) | (obtain rfl := Option.some.inj h; exact ⟨rfl, rfl, rfl⟩)), fun h => (by first | (cases h; done) | exact ⟨by kernel_rfl, by kernel_rfl, by kernel_rfl⟩)⟩
def ti65 : TInfo := ⟨(TypeDesc.func #[41, 2] #[4] false), false, 1, 8, [.raw .nilFunc], none, false, false⟩
theorem ti65_ok : TInfoOk Try.prog 65 ti65 := ⟨Try.underlying65, ⟨(.nilFunc), by kernel_rfl, rfl, rfl⟩, rfl, rfl, rfl, fun c h => (by first | (cases h; done) | (obtain rfl := Option.some.inj h; exact ⟨rfl, rfl, rfl⟩)), fun h => (by first | (cases h; done) | exact ⟨by kernel_rfl, by kernel_rfl, by kernel_rfl⟩)⟩
def ti66 : TInfo := ⟨(TypeDesc.func #[41] #[4] false), false, 1, 8, [.raw .nilFunc], none, false, false⟩
theorem ti66_ok : TInfoOk Try.prog 66 ti66 := ⟨Try.underlying66, ⟨(.nilFunc), by kernel_rfl, rfl, rfl⟩, rfl, rfl, rfl, fun c h => (by first | (cases h; done) | (obtain rfl := Option.some.inj h; exact ⟨rfl, rfl, rfl⟩)), fun h => (by first | (cases h; done) | exact ⟨by kernel_rfl, by kernel_rfl, by kernel_rfl⟩)⟩
def ti67 : TInfo := ⟨(TypeDesc.func #[41] #[2] false), false, 1, 8, [.raw .nilFunc], none, false, false⟩
theorem ti67_ok : TInfoOk Try.prog 67 ti67 := ⟨Try.underlying67, ⟨(.nilFunc), by kernel_rfl, rfl, rfl⟩, rfl, rfl, rfl, fun c h => (by first | (cases h; done) | (obtain rfl := Option.some.inj h; exact ⟨rfl, rfl, rfl⟩)), fun h => (by first | (cases h; done) | exact ⟨by kernel_rfl, by kernel_rfl, by kernel_rfl⟩)⟩
def ti68 : TInfo := ⟨(TypeDesc.func #[28, 2] #[41] false), false, 1, 8, [.raw .nilFunc], none, false, false⟩
theorem ti68_ok : TInfoOk Try.prog 68 ti68 := ⟨Try.underlying68, ⟨(.nilFunc), by kernel_rfl, rfl, rfl⟩, rfl, rfl, rfl, fun c h => (by first | (cases h; done) | (obtain rfl := Option.some.inj h; exact ⟨rfl, rfl, rfl⟩)), fun h => (by first | (cases h; done) | exact ⟨by kernel_rfl, by kernel_rfl, by kernel_rfl⟩)⟩
def ti69 : TInfo := ⟨(TypeDesc.func #[41] #[41] false), false, 1, 8, [.raw .nilFunc], none, false, false⟩
theorem ti69_ok : TInfoOk Try.prog 69 ti69 := ⟨Try.underlying69, ⟨(.nilFunc), by kernel_rfl, rfl, rfl⟩, rfl, rfl, rfl, fun c h => (by first | (cases h; done) | (obtain rfl := Option.some.inj h; exact ⟨rfl, rfl, rfl⟩)), fun h => (by first | (cases h; done) | exact ⟨by kernel_rfl, by kernel_rfl, by kernel_rfl⟩)⟩
def ti70 : TInfo := ⟨(TypeDesc.func #[25] #[25, 2] false), false, 1, 8, [.raw .nilFunc], none, false, false⟩
theorem ti70_ok : TInfoOk Try.prog 70 ti70 := ⟨Try.underlying70, ⟨(.nilFunc), by kernel_rfl, rfl, rfl⟩, rfl, rfl, rfl, fun c h => (by first | (cases h; done) | (obtain rfl := Option.some.inj h; exact ⟨rfl, rfl, rfl⟩)), fun h => (by first | (cases h; done) | exact ⟨by kernel_rfl, by kernel_rfl, by kernel_rfl⟩)⟩
def ti71 : TInfo := ⟨(TypeDesc.func #[2, 2] #[25] false), false, 1, 8, [.raw .nilFunc], none, false, false⟩
theorem ti71_ok : TInfoOk Try.prog 71 ti71 := ⟨Try.underlying71, ⟨(.nilFunc), by kernel_rfl, rfl, rfl⟩, rfl, rfl, rfl, fun c h => (by first | (cases h; done) | (obtain rfl := Option.some.inj h; exact ⟨rfl, rfl, rfl⟩)), fun h => (by first | (cases h; done) | exact ⟨by kernel_rfl, by kernel_rfl, by kernel_rfl⟩)⟩
def ti72 : TInfo := ⟨(TypeDesc.func #[78] #[2] true), false, 1, 8, [.raw .nilFunc], none, false, false⟩
theorem ti72_ok : TInfoOk Try.prog 72 ti72 := ⟨Try.underlying72, ⟨(.nilFunc), by kernel_rfl, rfl, rfl⟩, rfl, rfl, rfl, fun c h => (by first | (cases h; done) | (obtain rfl := Option.some.inj h; exact ⟨rfl, rfl, rfl⟩)), fun h => (by first | (cases h; done) | exact ⟨by kernel_rfl, by kernel_rfl, by kernel_rfl⟩)⟩
def ti73 : TInfo := ⟨(TypeDesc.func #[25, 25] #[5] false), false, 1, 8, [.raw .nilFunc], none, false, false⟩
theorem ti73_ok : TInfoOk Try.prog 73 ti73 := ⟨Try.underlying73, ⟨(.nilFunc), by kernel_rfl, rfl, rfl⟩, rfl, rfl, rfl, fun c h => (by first | (cases h; done) | (obtain rfl := Option.some.inj h; exact ⟨rfl, rfl, rfl⟩)), fun h => (by first | (cases h; done) | exact ⟨by kernel_rfl, by kernel_rfl, by kernel_rfl⟩)⟩
def ti74 : TInfo := ⟨(TypeDesc.func #[49, 41] #[2] true), false, 1, 8, [.raw .nilFunc], none, false, false⟩
theorem ti74_ok : TInfoOk Try.prog 74 ti74 := ⟨Try.underlying74, ⟨(.nilFunc), by kernel_rfl, rfl, rfl⟩, rfl, rfl, rfl, fun c h => (by first | (cases h; done) | (obtain rfl := Option.some.inj h; exact ⟨rfl, rfl, rfl⟩)), fun h => (by first | (cases h; done) | exact ⟨by kernel_rfl, by kernel_rfl, by kernel_rfl⟩)⟩
def ti75 : TInfo := ⟨(TypeDesc.int IntKind.u64), false, 1, 8, [.int .u64 0], (some (.int .u64)), false, false⟩
theorem ti75_ok : TInfoOk Try.prog 75 ti75 := ⟨Try.underlying75, ⟨(.int .u64 0), by kernel_rfl, rfl, rfl⟩, rfl, rfl, rfl, fun c h => (by first | (cases h; done) | (obtain rfl := Option.some.inj h; exact ⟨rfl, rfl, rfl⟩)), fun h => (by first | (cases h; done) | exact ⟨by kernel_rfl, by kernel_rfl, by kernel_rfl⟩)⟩
def ti76 : TInfo := ⟨(TypeDesc.struct #[{ name := "code", type := 22, offset := 0, embedded := false, tag := "", pkgPath := "loop.example/g01234/spec", byteOffset := 0 }, { name := "at", type := 3, offset := 1, embedded := false, tag := "", pkgPath := "loop.example/g01234/spec", byteOffset := 24 }, { name := "hash", type := 75, offset := 2, embedded := false, tag := "", pkgPath := "loop.example/g01234/spec", byteOffset := 32 }]), true, 3, 40, [.raw (.slice none 0 0), .int .i64 0, .int .u64 0], none, false, false⟩
theorem ti76_ok : TInfoOk Try.prog 76 ti76 := ⟨Try.underlying76, ⟨(.agg #[(.slice none 0 0), .int .i64 0, .int .u64 0]), by kernel_rfl, rfl, rfl⟩, rfl, rfl, rfl, fun c h => (by first | (cases h; done) | (obtain rfl := Option.some.inj h; exact ⟨rfl, rfl, rfl⟩)), fun h => (by first | (cases h; done) | exact ⟨by kernel_rfl, by kernel_rfl, by kernel_rfl⟩)⟩
def ti77 : TInfo := ⟨(TypeDesc.struct #[{ name := "code", type := 22, offset := 0, embedded := false, tag := "", pkgPath := "loop.example/g01234/spec", byteOffset := 0 }, { name := "at", type := 3, offset := 1, embedded := false, tag := "", pkgPath := "loop.example/g01234/spec", byteOffset := 24 }, { name := "hash", type := 75, offset := 2, embedded := false, tag := "", pkgPath := "loop.example/g01234/spec", byteOffset := 32 }]), true, 3, 40, [.raw (.slice none 0 0), .int .i64 0, .int .u64 0], none, false, false⟩
theorem ti77_ok : TInfoOk Try.prog 77 ti77 := ⟨Try.underlying77, ⟨(.agg #[(.slice none 0 0), .int .i64 0, .int .u64 0]), by kernel_rfl, rfl, rfl⟩, rfl, rfl, rfl, fun c h => (by first | (cases h; done) | (obtain rfl := Option.some.inj h; exact ⟨rfl, rfl, rfl⟩)), fun h => (by first | (cases h; done) | exact ⟨by kernel_rfl, by kernel_rfl, by kernel_rfl⟩)⟩
def ti78 : TInfo := ⟨(TypeDesc.slice 25), false, 1, 24, [.raw (.slice none 0 0)], none, false, false⟩
theorem ti78_ok : TInfoOk Try.prog 78 ti78 := ⟨Try.underlying78, ⟨((.slice none 0 0)), by kernel_rfl, rfl, rfl⟩, rfl, rfl, rfl, fun c h => (by first | (cases h; done) | (obtain rfl := Option.some.inj h; exact ⟨rfl, rfl, rfl⟩)), fun h => (by first | (cases h; done) | exact ⟨by kernel_rfl, by kernel_rfl, by kernel_rfl⟩)⟩
def ti79 : TInfo := ⟨(TypeDesc.func #[2, 92] #[28] true), false, 1, 8, [.raw .nilFunc], none, false, false⟩
theorem ti79_ok : TInfoOk Try.prog 79 ti79 := ⟨Try.underlying79, ⟨(.nilFunc), by kernel_rfl, rfl, rfl⟩, rfl, rfl, rfl, fun c h => (by first | (cases h; done) | (obtain rfl := Option.some.inj h; exact ⟨rfl, rfl, rfl⟩)), fun h => (by first | (cases h; done) | exact ⟨by kernel_rfl, by kernel_rfl, by kernel_rfl⟩)⟩
def ti80 : TInfo := ⟨(TypeDesc.func #[2] #[95] false), false, 1, 8, [.raw .nilFunc], none, false, false⟩
theorem ti80_ok : TInfoOk Try.prog 80 ti80 := ⟨Try.underlying80, ⟨(.nilFunc), by kernel_rfl, rfl, rfl⟩, rfl, rfl, rfl, fun c h => (by first | (cases h; done) | (obtain rfl := Option.some.inj h; exact ⟨rfl, rfl, rfl⟩)), fun h => (by first | (cases h; done) | exact ⟨by kernel_rfl, by kernel_rfl, by kernel_rfl⟩)⟩
def ti81 : TInfo := ⟨(TypeDesc.func #[25, 2, 2] #[80] false), false, 1, 8, [.raw .nilFunc], none, false, false⟩
theorem ti81_ok : TInfoOk Try.prog 81 ti81 := ⟨Try.underlying81, ⟨(.nilFunc), by kernel_rfl, rfl, rfl⟩, rfl, rfl, rfl, fun c h => (by first | (cases h; done) | (obtain rfl := Option.some.inj h; exact ⟨rfl, rfl, rfl⟩)), fun h => (by first | (cases h; done) | exact ⟨by kernel_rfl, by kernel_rfl, by kernel_rfl⟩)⟩
def ti82 : TInfo := ⟨(TypeDesc.slice 95), false, 1, 24, [.raw (.slice none 0 0)], none, false, false⟩
theorem ti82_ok : TInfoOk Try.prog 82 ti82 := ⟨Try.underlying82, ⟨((.slice none 0 0)), by kernel_rfl, rfl, rfl⟩, rfl, rfl, rfl, fun c h => (by first | (cases h; done) | (obtain rfl := Option.some.inj h; exact ⟨rfl, rfl, rfl⟩)), fun h => (by first | (cases h; done) | exact ⟨by kernel_rfl, by kernel_rfl, by kernel_rfl⟩)⟩
def ti84 : TInfo := ⟨(TypeDesc.func #[25, 2, 2] #[82, 4] false), false, 1, 8, [.raw .nilFunc], none, false, false⟩
theorem ti84_ok : TInfoOk Try.prog 84 ti84 := ⟨Try.underlying84, ⟨(.nilFunc), by kernel_rfl, rfl, rfl⟩, rfl, rfl, rfl, fun c h => (by first | (cases h; done) | (obtain rfl := Option.some.inj h; exact ⟨rfl, rfl, rfl⟩)), fun h => (by first | (cases h; done) | exact ⟨by kernel_rfl, by kernel_rfl, by kernel_rfl⟩)⟩
def ti85 : TInfo := ⟨(TypeDesc.func #[41, 82] #[41] false), false, 1, 8, [.raw .nilFunc], none, false, false⟩
theorem ti85_ok : TInfoOk Try.prog 85 ti85 := ⟨Try.underlying85, ⟨(.nilFunc), by kernel_rfl, rfl, rfl⟩, rfl, rfl, rfl, fun c h => (by first | (cases h; done) | (obtain rfl := Option.some.inj h; exact ⟨rfl, rfl, rfl⟩)), fun h => (by first | (cases h; done) | exact ⟨by kernel_rfl, by kernel_rfl, by kernel_rfl⟩)⟩
def ti86 : TInfo := ⟨(TypeDesc.func #[49, 25] #[25] false), false, 1, 8, [.raw .nilFunc], none, false, false⟩
theorem ti86_ok : TInfoOk Try.prog 86 ti86 := ⟨Try.underlying86, ⟨(.nilFunc), by kernel_rfl, rfl, rfl⟩, rfl, rfl, rfl, fun c h => (by first | (cases h; done) | (obtain rfl := Option.some.inj h; exact ⟨rfl, rfl, rfl⟩)), fun h => (by first | (cases h; done) | exact ⟨by kernel_rfl, by kernel_rfl, by kernel_rfl⟩)⟩
def ti87 : TInfo := ⟨(TypeDesc.int IntKind.u64), false, 1, 8, [.int .u64 0], (some (.int .u64)), false, false⟩
theorem ti87_ok : TInfoOk Try.prog 87 ti87 := ⟨Try.underlying87, ⟨(.int .u64 0), by kernel_rfl, rfl, rfl⟩, rfl, rfl, rfl, fun c h => (by first | (cases h; done) | (obtain rfl := Option.some.inj h; exact ⟨rfl, rfl, rfl⟩)), fun h => (by first | (cases h; done) | exact ⟨by kernel_rfl, by kernel_rfl, by kernel_rfl⟩)⟩
def ti88 : TInfo := ⟨(TypeDesc.func #[2, 2] #[2] false), false, 1, 8, [.raw .nilFunc], none, false, false⟩
theorem ti88_ok : TInfoOk Try.prog 88 ti88 := ⟨Try.underlying88, ⟨(.nilFunc), by kernel_rfl, rfl, rfl⟩, rfl, rfl, rfl, fun c h => (by first | (cases h; done) | (obtain rfl := Option.some.inj h; exact ⟨rfl, rfl, rfl⟩)), fun h => (by first | (cases h; done) | exact ⟨by kernel_rfl, by kernel_rfl, by kernel_rfl⟩)⟩
def ti89 : TInfo := ⟨(TypeDesc.func #[28, 66] #[3] false), false, 1, 8, [.raw .nilFunc], none, false, false⟩
theorem ti89_ok : TInfoOk Try.prog 89 ti89 := ⟨Try.underlying89, ⟨(.nilFunc), by kernel_rfl, rfl, rfl⟩, rfl, rfl, rfl, fun c h => (by first | (cases h; done) | (obtain rfl := Option.some.inj h; exact ⟨rfl, rfl, rfl⟩)), fun h => (by first | (cases h; done) | exact ⟨by kernel_rfl, by kernel_rfl, by kernel_rfl⟩)⟩
def ti90 : TInfo := ⟨(TypeDesc.func #[41, 2] #[3] false), false, 1, 8, [.raw .nilFunc], none, false, false⟩
theorem ti90_ok : TInfoOk Try.prog 90 ti90 := ⟨Try.underlying90, ⟨(.nilFunc), by kernel_rfl, rfl, rfl⟩, rfl, rfl, rfl, fun c h => (by first | (cases h; done) | (obtain rfl := Option.some.inj h; exact ⟨rfl, rfl, rfl⟩)), fun h => (by first | (cases h; done) | exact ⟨by kernel_rfl, by kernel_rfl, by kernel_rfl⟩)⟩
def ti91 : TInfo := ⟨(TypeDesc.func #[78, 60] #[4] false), false, 1, 8, [.raw .nilFunc], none, false, false⟩
theorem ti91_ok : TInfoOk Try.prog 91 ti91 := ⟨Try.underlying91, ⟨(.nilFunc), by kernel_rfl, rfl, rfl⟩, rfl, rfl, rfl, fun c h => (by first | (cases h; done) | (obtain rfl := Option.some.inj h; exact ⟨rfl, rfl, rfl⟩)), fun h => (by first | (cases h; done) | exact ⟨by kernel_rfl, by kernel_rfl, by kernel_rfl⟩)⟩
def ti92 : TInfo := ⟨(TypeDesc.slice 80), false, 1, 24, [.raw (.slice none 0 0)], none, false, false⟩
theorem ti92_ok : TInfoOk Try.prog 92 ti92 := ⟨Try.underlying92, ⟨((.slice none 0 0)), by kernel_rfl, rfl, rfl⟩, rfl, rfl, rfl, fun c h => (by first | (cases h; done) | (obtain rfl := Option.some.inj h; exact ⟨rfl, rfl, rfl⟩)), fun h => (by first | (cases h; done) | exact ⟨by kernel_rfl, by kernel_rfl, by kernel_rfl⟩)⟩
def ti93 : TInfo := ⟨(TypeDesc.map 95 2), false, 1, 8, [.raw (.map none)], none, false, false⟩
theorem ti93_ok : TInfoOk Try.prog 93 ti93 := ⟨Try.underlying93, ⟨((.map none)), by kernel_rfl, rfl, rfl⟩, rfl, rfl, rfl, fun c h => (by first | (cases h; done) | (obtain rfl := Option.some.inj h; exact ⟨rfl, rfl, rfl⟩)), fun h => (by first | (cases h; done) | exact ⟨by kernel_rfl, by kernel_rfl, by kernel_rfl⟩)⟩
def ti94 : TInfo := ⟨(TypeDesc.struct #[{ name := "Pre", type := 9, offset := 0, embedded := false, tag := "", pkgPath := "", byteOffset := 0 }, { name := "Per", type := 9, offset := 1, embedded := false, tag := "", pkgPath := "", byteOffset := 16 }]), true, 2, 32, [.str ByteArray.empty, .str ByteArray.empty], (some (.pair .str .str)), true, false⟩
theorem ti94_ok : TInfoOk Try.prog 94 ti94 := ⟨Try.underlying94, ⟨(.agg #[.string ByteArray.empty, .string ByteArray.empty]), by kernel_rfl, rfl, rfl⟩, rfl, rfl, rfl, fun c h => (by first | (cases h; done) | (obtain rfl := Option.some.inj h; exact ⟨rfl, rfl, rfl⟩)), fun h => (by first | (cases h; done) | exact ⟨by kernel_rfl, by kernel_rfl, by kernel_rfl⟩)⟩
def ti95 : TInfo := ⟨(TypeDesc.struct #[{ name := "Pre", type := 9, offset := 0, embedded := false, tag := "", pkgPath := "", byteOffset := 0 }, { name := "Per", type := 9, offset := 1, embedded := false, tag := "", pkgPath := "", byteOffset := 16 }]), true, 2, 32, [.str ByteArray.empty, .str ByteArray.empty], (some (.pair .str .str)), true, false⟩
theorem ti95_ok : TInfoOk Try.prog 95 ti95 := ⟨Try.underlying95, ⟨(.agg #[.string ByteArray.empty, .string ByteArray.empty]), by kernel_rfl, rfl, rfl⟩, rfl, rfl, rfl, fun c h => (by first | (cases h; done) | (obtain rfl := Option.some.inj h; exact ⟨rfl, rfl, rfl⟩)), fun h => (by first | (cases h; done) | exact ⟨by kernel_rfl, by kernel_rfl, by kernel_rfl⟩)⟩
def ti97 : TInfo := ⟨(TypeDesc.func #[25, 25] #[95] false), false, 1, 8, [.raw .nilFunc], none, false, false⟩
theorem ti97_ok : TInfoOk Try.prog 97 ti97 := ⟨Try.underlying97, ⟨(.nilFunc), by kernel_rfl, rfl, rfl⟩, rfl, rfl, rfl, fun c h => (by first | (cases h; done) | (obtain rfl := Option.some.inj h; exact ⟨rfl, rfl, rfl⟩)), fun h => (by first | (cases h; done) | exact ⟨by kernel_rfl, by kernel_rfl, by kernel_rfl⟩)⟩
def ti99 : TInfo := ⟨(TypeDesc.func #[25, 25] #[95, 4] false), false, 1, 8, [.raw .nilFunc], none, false, false⟩
theorem ti99_ok : TInfoOk Try.prog 99 ti99 := ⟨Try.underlying99, ⟨(.nilFunc), by kernel_rfl, rfl, rfl⟩, rfl, rfl, rfl, fun c h => (by first | (cases h; done) | (obtain rfl := Option.some.inj h; exact ⟨rfl, rfl, rfl⟩)), fun h => (by first | (cases h; done) | exact ⟨by kernel_rfl, by kernel_rfl, by kernel_rfl⟩)⟩
def ti101 : TInfo := ⟨(TypeDesc.func #[] #[78, 3, 4] false), false, 1, 8, [.raw .nilFunc], none, false, false⟩
theorem ti101_ok : TInfoOk Try.prog 101 ti101 := ⟨Try.underlying101, ⟨(.nilFunc), by kernel_rfl, rfl, rfl⟩, rfl, rfl, rfl, fun c h => (by first | (cases h; done) | (obtain rfl := Option.some.inj h; exact ⟨rfl, rfl, rfl⟩)), fun h => (by first | (cases h; done) | exact ⟨by kernel_rfl, by kernel_rfl, by kernel_rfl⟩)⟩
def ti102 : TInfo := ⟨(TypeDesc.func #[78, 3, 103] #[95] false), false, 1, 8, [.raw .nilFunc], none, false, false⟩
theorem ti102_ok : TInfoOk Try.prog 102 ti102 := ⟨Try.underlying102, ⟨(.nilFunc), by kernel_rfl, rfl, rfl⟩, rfl, rfl, rfl, fun c h => (by first | (cases h; done) | (obtain rfl := Option.some.inj h; exact ⟨rfl, rfl, rfl⟩)), fun h => (by first | (cases h; done) | exact ⟨by kernel_rfl, by kernel_rfl, by kernel_rfl⟩)⟩
def ti103 : TInfo := ⟨(TypeDesc.func #[25] #[5] false), false, 1, 8, [.raw .nilFunc], none, false, false⟩
theorem ti103_ok : TInfoOk Try.prog 103 ti103 := ⟨Try.underlying103, ⟨(.nilFunc), by kernel_rfl, rfl, rfl⟩, rfl, rfl, rfl, fun c h => (by first | (cases h; done) | (obtain rfl := Option.some.inj h; exact ⟨rfl, rfl, rfl⟩)), fun h => (by first | (cases h; done) | exact ⟨by kernel_rfl, by kernel_rfl, by kernel_rfl⟩)⟩
def ti105 : TInfo := ⟨(TypeDesc.func #[25] #[78, 2, 4] false), false, 1, 8, [.raw .nilFunc], none, false, false⟩
theorem ti105_ok : TInfoOk Try.prog 105 ti105 := ⟨Try.underlying105, ⟨(.nilFunc), by kernel_rfl, rfl, rfl⟩, rfl, rfl, rfl, fun c h => (by first | (cases h; done) | (obtain rfl := Option.some.inj h; exact ⟨rfl, rfl, rfl⟩)), fun h => (by first | (cases h; done) | exact ⟨by kernel_rfl, by kernel_rfl, by kernel_rfl⟩)⟩
def ti106 : TInfo := ⟨(TypeDesc.func #[9, 9] #[95] false), false, 1, 8, [.raw .nilFunc], none, false, false⟩
theorem ti106_ok : TInfoOk Try.prog 106 ti106 := ⟨Try.underlying106, ⟨(.nilFunc), by kernel_rfl, rfl, rfl⟩, rfl, rfl, rfl, fun c h => (by first | (cases h; done) | (obtain rfl := Option.some.inj h; exact ⟨rfl, rfl, rfl⟩)), fun h => (by first | (cases h; done) | exact ⟨by kernel_rfl, by kernel_rfl, by kernel_rfl⟩)⟩
def ti107 : TInfo := ⟨(TypeDesc.func #[78, 60] #[3] false), false, 1, 8, [.raw .nilFunc], none, false, false⟩
theorem ti107_ok : TInfoOk Try.prog 107 ti107 := ⟨Try.underlying107, ⟨(.nilFunc), by kernel_rfl, rfl, rfl⟩, rfl, rfl, rfl, fun c h => (by first | (cases h; done) | (obtain rfl := Option.some.inj h; exact ⟨rfl, rfl, rfl⟩)), fun h => (by first | (cases h; done) | exact ⟨by kernel_rfl, by kernel_rfl, by kernel_rfl⟩)⟩
def ti108 : TInfo := ⟨(TypeDesc.func #[78, 25] #[3] false), false, 1, 8, [.raw .nilFunc], none, false, false⟩
theorem ti108_ok : TInfoOk Try.prog 108 ti108 := ⟨Try.underlying108, ⟨(.nilFunc), by kernel_rfl, rfl, rfl⟩, rfl, rfl, rfl, fun c h => (by first | (cases h; done) | (obtain rfl := Option.some.inj h; exact ⟨rfl, rfl, rfl⟩)), fun h => (by first | (cases h; done) | exact ⟨by kernel_rfl, by kernel_rfl, by kernel_rfl⟩)⟩
def ti109 : TInfo := ⟨(TypeDesc.func #[] #[25] false), false, 1, 8, [.raw .nilFunc], none, false, false⟩
theorem ti109_ok : TInfoOk Try.prog 109 ti109 := ⟨Try.underlying109, ⟨(.nilFunc), by kernel_rfl, rfl, rfl⟩, rfl, rfl, rfl, fun c h => (by first | (cases h; done) | (obtain rfl := Option.some.inj h; exact ⟨rfl, rfl, rfl⟩)), fun h => (by first | (cases h; done) | exact ⟨by kernel_rfl, by kernel_rfl, by kernel_rfl⟩)⟩
def ti110 : TInfo := ⟨(TypeDesc.func #[9] #[9] false), false, 1, 8, [.raw .nilFunc], none, false, false⟩
theorem ti110_ok : TInfoOk Try.prog 110 ti110 := ⟨Try.underlying110, ⟨(.nilFunc), by kernel_rfl, rfl, rfl⟩, rfl, rfl, rfl, fun c h => (by first | (cases h; done) | (obtain rfl := Option.some.inj h; exact ⟨rfl, rfl, rfl⟩)), fun h => (by first | (cases h; done) | exact ⟨by kernel_rfl, by kernel_rfl, by kernel_rfl⟩)⟩
def ti111 : TInfo := ⟨(TypeDesc.func #[9, 3] #[9] false), false, 1, 8, [.raw .nilFunc], none, false, false⟩
theorem ti111_ok : TInfoOk Try.prog 111 ti111 := ⟨Try.underlying111, ⟨(.nilFunc), by kernel_rfl, rfl, rfl⟩, rfl, rfl, rfl, fun c h => (by first | (cases h; done) | (obtain rfl := Option.some.inj h; exact ⟨rfl, rfl, rfl⟩)), fun h => (by first | (cases h; done) | exact ⟨by kernel_rfl, by kernel_rfl, by kernel_rfl⟩)⟩
def ti113 : TInfo := ⟨(TypeDesc.func #[87, 87] #[87, 87] false), false, 1, 8, [.raw .nilFunc], none, false, false⟩
theorem ti113_ok : TInfoOk Try.prog 113 ti113 := ⟨Try.underlying113, ⟨(.nilFunc), by kernel_rfl, rfl, rfl⟩, rfl, rfl, rfl, fun c h => (by first | (cases h; done) | (obtain rfl := Option.some.inj h; exact ⟨rfl, rfl, rfl⟩)), fun h => (by first | (cases h; done) | exact ⟨by kernel_rfl, by kernel_rfl, by kernel_rfl⟩)⟩
def ti114 : TInfo := ⟨(TypeDesc.func #[9, 9] #[4] false), false, 1, 8, [.raw .nilFunc], none, false, false⟩
theorem ti114_ok : TInfoOk Try.prog 114 ti114 := ⟨Try.underlying114, ⟨(.nilFunc), by kernel_rfl, rfl, rfl⟩, rfl, rfl, rfl, fun c h => (by first | (cases h; done) | (obtain rfl := Option.some.inj h; exact ⟨rfl, rfl, rfl⟩)), fun h => (by first | (cases h; done) | exact ⟨by kernel_rfl, by kernel_rfl, by kernel_rfl⟩)⟩
def ti115 : TInfo := ⟨(TypeDesc.pointer 117), false, 1, 8, [.raw (.pointer none)], none, false, false⟩
theorem ti115_ok : TInfoOk Try.prog 115 ti115 := ⟨Try.underlying115, ⟨((.pointer none)), by kernel_rfl, rfl, rfl⟩, rfl, rfl, rfl, fun c h => (by first | (cases h; done) | (obtain rfl := Option.some.inj h; exact ⟨rfl, rfl, rfl⟩)), fun h => (by first | (cases h; done) | exact ⟨by kernel_rfl, by kernel_rfl, by kernel_rfl⟩)⟩
def ti116 : TInfo := ⟨(TypeDesc.struct #[{ name := "addr", type := 115, offset := 0, embedded := false, tag := "", pkgPath := "strings", byteOffset := 0 }, { name := "buf", type := 22, offset := 1, embedded := false, tag := "", pkgPath := "strings", byteOffset := 8 }]), true, 2, 32, [.raw (.pointer none), .raw (.slice none 0 0)], none, false, false⟩
theorem ti116_ok : TInfoOk Try.prog 116 ti116 := ⟨Try.underlying116, ⟨(.agg #[(.pointer none), (.slice none 0 0)]), by kernel_rfl, rfl, rfl⟩, rfl, rfl, rfl, fun c h => (by first | (cases h; done) | (obtain rfl := Option.some.inj h; exact ⟨rfl, rfl, rfl⟩)), fun h => (by first | (cases h; done) | exact ⟨by kernel_rfl, by kernel_rfl, by kernel_rfl⟩)⟩
def ti117 : TInfo := ⟨(TypeDesc.struct #[{ name := "addr", type := 115, offset := 0, embedded := false, tag := "", pkgPath := "strings", byteOffset := 0 }, { name := "buf", type := 22, offset := 1, embedded := false, tag := "", pkgPath := "strings", byteOffset := 8 }]), true, 2, 32, [.raw (.pointer none), .raw (.slice none 0 0)], none, false, false⟩
theorem ti117_ok : TInfoOk Try.prog 117 ti117 := ⟨Try.underlying117, ⟨(.agg #[(.pointer none), (.slice none 0 0)]), by kernel_rfl, rfl, rfl⟩, rfl, rfl, rfl, fun c h => (by first | (cases h; done) | (obtain rfl := Option.some.inj h; exact ⟨rfl, rfl, rfl⟩)), fun h => (by first | (cases h; done) | exact ⟨by kernel_rfl, by kernel_rfl, by kernel_rfl⟩)⟩
def ti118 : TInfo := ⟨(TypeDesc.func #[3] #[] false), false, 1, 8, [.raw .nilFunc], none, false, false⟩
theorem ti118_ok : TInfoOk Try.prog 118 ti118 := ⟨Try.underlying118, ⟨(.nilFunc), by kernel_rfl, rfl, rfl⟩, rfl, rfl, rfl, fun c h => (by first | (cases h; done) | (obtain rfl := Option.some.inj h; exact ⟨rfl, rfl, rfl⟩)), fun h => (by first | (cases h; done) | exact ⟨by kernel_rfl, by kernel_rfl, by kernel_rfl⟩)⟩
def ti122 : TInfo := ⟨(TypeDesc.func #[9] #[3, 120] false), false, 1, 8, [.raw .nilFunc], none, false, false⟩
theorem ti122_ok : TInfoOk Try.prog 122 ti122 := ⟨Try.underlying122, ⟨(.nilFunc), by kernel_rfl, rfl, rfl⟩, rfl, rfl, rfl, fun c h => (by first | (cases h; done) | (obtain rfl := Option.some.inj h; exact ⟨rfl, rfl, rfl⟩)), fun h => (by first | (cases h; done) | exact ⟨by kernel_rfl, by kernel_rfl, by kernel_rfl⟩)⟩
def ti123 : TInfo := ⟨(TypeDesc.func #[] #[3] false), false, 1, 8, [.raw .nilFunc], none, false, false⟩
theorem ti123_ok : TInfoOk Try.prog 123 ti123 := ⟨Try.underlying123, ⟨(.nilFunc), by kernel_rfl, rfl, rfl⟩, rfl, rfl, rfl, fun c h => (by first | (cases h; done) | (obtain rfl := Option.some.inj h; exact ⟨rfl, rfl, rfl⟩)), fun h => (by first | (cases h; done) | exact ⟨by kernel_rfl, by kernel_rfl, by kernel_rfl⟩)⟩
def ti124 : TInfo := ⟨(TypeDesc.func #[] #[9] false), false, 1, 8, [.raw .nilFunc], none, false, false⟩
theorem ti124_ok : TInfoOk Try.prog 124 ti124 := ⟨Try.underlying124, ⟨(.nilFunc), by kernel_rfl, rfl, rfl⟩, rfl, rfl, rfl, fun c h => (by first | (cases h; done) | (obtain rfl := Option.some.inj h; exact ⟨rfl, rfl, rfl⟩)), fun h => (by first | (cases h; done) | exact ⟨by kernel_rfl, by kernel_rfl, by kernel_rfl⟩)⟩
def ti125 : TInfo := ⟨(TypeDesc.int IntKind.u32), false, 1, 4, [.int .u32 0], (some (.int .u32)), false, false⟩
theorem ti125_ok : TInfoOk Try.prog 125 ti125 := ⟨Try.underlying125, ⟨(.int .u32 0), by kernel_rfl, rfl, rfl⟩, rfl, rfl, rfl, fun c h => (by first | (cases h; done) | (obtain rfl := Option.some.inj h; exact ⟨rfl, rfl, rfl⟩)), fun h => (by first | (cases h; done) | exact ⟨by kernel_rfl, by kernel_rfl, by kernel_rfl⟩)⟩
def ti127 : TInfo := ⟨(TypeDesc.func #[125, 125] #[125, 125] false), false, 1, 8, [.raw .nilFunc], none, false, false⟩
theorem ti127_ok : TInfoOk Try.prog 127 ti127 := ⟨Try.underlying127, ⟨(.nilFunc), by kernel_rfl, rfl, rfl⟩, rfl, rfl, rfl, fun c h => (by first | (cases h; done) | (obtain rfl := Option.some.inj h; exact ⟨rfl, rfl, rfl⟩)), fun h => (by first | (cases h; done) | exact ⟨by kernel_rfl, by kernel_rfl, by kernel_rfl⟩)⟩
def ti129 : TInfo := ⟨(TypeDesc.func #[75, 75] #[75, 75] false), false, 1, 8, [.raw .nilFunc], none, false, false⟩
theorem ti129_ok : TInfoOk Try.prog 129 ti129 := ⟨Try.underlying129, ⟨(.nilFunc), by kernel_rfl, rfl, rfl⟩, rfl, rfl, rfl, fun c h => (by first | (cases h; done) | (obtain rfl := Option.some.inj h; exact ⟨rfl, rfl, rfl⟩)), fun h => (by first | (cases h; done) | exact ⟨by kernel_rfl, by kernel_rfl, by kernel_rfl⟩)⟩
def ti130 : TInfo := ⟨(TypeDesc.pointer 5), false, 1, 8, [.raw (.pointer none)], none, false, false⟩
theorem ti130_ok : TInfoOk Try.prog 130 ti130 := ⟨Try.underlying130, ⟨((.pointer none)), by kernel_rfl, rfl, rfl⟩, rfl, rfl, rfl, fun c h => (by first | (cases h; done) | (obtain rfl := Option.some.inj h; exact ⟨rfl, rfl, rfl⟩)), fun h => (by first | (cases h; done) | exact ⟨by kernel_rfl, by kernel_rfl, by kernel_rfl⟩)⟩
def ti133 : TInfo := ⟨(TypeDesc.func #[3] #[22] false), false, 1, 8, [.raw .nilFunc], none, false, false⟩
theorem ti133_ok : TInfoOk Try.prog 133 ti133 := ⟨Try.underlying133, ⟨(.nilFunc), by kernel_rfl, rfl, rfl⟩, rfl, rfl, rfl, fun c h => (by first | (cases h; done) | (obtain rfl := Option.some.inj h; exact ⟨rfl, rfl, rfl⟩)), fun h => (by first | (cases h; done) | exact ⟨by kernel_rfl, by kernel_rfl, by kernel_rfl⟩)⟩
def ti146 : TInfo := ⟨(TypeDesc.func #[] #[4] false), false, 1, 8, [.raw .nilFunc], none, false, false⟩
theorem ti146_ok : TInfoOk Try.prog 146 ti146 := ⟨Try.underlying146, ⟨(.nilFunc), by kernel_rfl, rfl, rfl⟩, rfl, rfl, rfl, fun c h => (by first | (cases h; done) | (obtain rfl := Option.some.inj h; exact ⟨rfl, rfl, rfl⟩)), fun h => (by first | (cases h; done) | exact ⟨by kernel_rfl, by kernel_rfl, by kernel_rfl⟩)⟩
def TL : List (TypeId × TInfo) := [(1, ti1), (2, ti2), (3, ti3), (4, ti4), (5, ti5), (9, ti9), (21, ti21), (22, ti22), (23, ti23), (24, ti24), (25, ti25), (27, ti27), (28, ti28), (30, ti30), (31, ti31), (33, ti33), (34, ti34), (36, ti36), (38, ti38), (40, ti40), (41, ti41), (43, ti43), (44, ti44), (45, ti45), (47, ti47), (48, ti48), (49, ti49), (50, ti50), (51, ti51), (52, ti52), (53, ti53), (54, ti54), (56, ti56), (57, ti57), (58, ti58), (59, ti59), (60, ti60), (61, ti61), (62, ti62), (63, ti63), (64, ti64), (65, ti65), (66, ti66), (67, ti67), (68, ti68), (69, ti69), (70, ti70), (71, ti71), (72, ti72), (73, ti73), (74, ti74), (75, ti75), (76, ti76), (77, ti77), (78, ti78), (79, ti79), (80, ti80), (81, ti81), (82, ti82), (84, ti84), (85, ti85), (86, ti86), (87, ti87), (88, ti88), (89, ti89), (90, ti90), (91, ti91), (92, ti92), (93, ti93), (94, ti94), (95, ti95), (97, ti97), (99, ti99), (101, ti101), (102, ti102), (103, ti103), (105, ti105), (106, ti106), (107, ti107), (108, ti108), (109, ti109), (110, ti110), (111, ti111), (113, ti113), (114, ti114), (115, ti115), (116, ti116), (117, ti117), (118, ti118), (122, ti122), (123, ti123), (124, ti124), (125, ti125), (127, ti127), (129, ti129), (130, ti130), (133, ti133), (146, ti146)]
def T : TypeId → Option TInfo := lookT TL
theorem T_ok : TOk Try.prog T := TOk.list (by
  intro p hp
  simp only [TL, List.mem_cons, List.not_mem_nil, or_false] at hp
  rcases hp with rfl | rfl | rfl | rfl | rfl | rfl | rfl | rfl | rfl | rfl | rfl | rfl | rfl | rfl | rfl | rfl | rfl | rfl | rfl | rfl | rfl | rfl | rfl | rfl | rfl | rfl | rfl | rfl | rfl | rfl | rfl | rfl | rfl | rfl | rfl | rfl | rfl | rfl | rfl | rfl | rfl | rfl | rfl | rfl | rfl | rfl | rfl | rfl | rfl | rfl | rfl | rfl | rfl | rfl | rfl | rfl | rfl | rfl | rfl | rfl | rfl | rfl | rfl | rfl | rfl | rfl | rfl | rfl | rfl | rfl | rfl | rfl | rfl | rfl | rfl | rfl | rfl | rfl | rfl | rfl | rfl | rfl | rfl | rfl | rfl | rfl | rfl | rfl | rfl | rfl | rfl | rfl | rfl | rfl | rfl | rfl | rfl | rfl
  · exact ti1_ok
  · exact ti2_ok
  · exact ti3_ok
  · exact ti4_ok
  · exact ti5_ok
  · exact ti9_ok
  · exact ti21_ok
  · exact ti22_ok
  · exact ti23_ok
  · exact ti24_ok
  · exact ti25_ok
  · exact ti27_ok
  · exact ti28_ok
  · exact ti30_ok
  · exact ti31_ok
  · exact ti33_ok
  · exact ti34_ok
  · exact ti36_ok
  · exact ti38_ok
  · exact ti40_ok
  · exact ti41_ok
  · exact ti43_ok
  · exact ti44_ok
  · exact ti45_ok
  · exact ti47_ok
  · exact ti48_ok
  · exact ti49_ok
  · exact ti50_ok
  · exact ti51_ok
  · exact ti52_ok
  · exact ti53_ok
  · exact ti54_ok
  · exact ti56_ok
  · exact ti57_ok
  · exact ti58_ok
  · exact ti59_ok
  · exact ti60_ok
  · exact ti61_ok
  · exact ti62_ok
  · exact ti63_ok
  · exact ti64_ok
  · exact ti65_ok
  · exact ti66_ok
  · exact ti67_ok
  · exact ti68_ok
  · exact ti69_ok
  · exact ti70_ok
  · exact ti71_ok
  · exact ti72_ok
  · exact ti73_ok
  · exact ti74_ok
  · exact ti75_ok
  · exact ti76_ok
  · exact ti77_ok
  · exact ti78_ok
  · exact ti79_ok
  · exact ti80_ok
  · exact ti81_ok
  · exact ti82_ok
  · exact ti84_ok
  · exact ti85_ok
  · exact ti86_ok
  · exact ti87_ok
  · exact ti88_ok
  · exact ti89_ok
  · exact ti90_ok
  · exact ti91_ok
  · exact ti92_ok
  · exact ti93_ok
  · exact ti94_ok
  · exact ti95_ok
  · exact ti97_ok
  · exact ti99_ok
  · exact ti101_ok
  · exact ti102_ok
  · exact ti103_ok
  · exact ti105_ok
  · exact ti106_ok
  · exact ti107_ok
  · exact ti108_ok
  · exact ti109_ok
  · exact ti110_ok
  · exact ti111_ok
  · exact ti113_ok
  · exact ti114_ok
  · exact ti115_ok
  · exact ti116_ok
  · exact ti117_ok
  · exact ti118_ok
  · exact ti122_ok
  · exact ti123_ok
  · exact ti124_ok
  · exact ti125_ok
  · exact ti127_ok
  · exact ti129_ok
  · exact ti130_ok
  · exact ti133_ok
  · exact ti146_ok)
end Go.Proofs.Ytllagpbbbdekiac.Fw
