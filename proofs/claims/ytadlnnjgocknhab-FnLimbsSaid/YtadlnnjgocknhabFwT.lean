/- What is known of the data types of this seat's program. Written by a program of this session (gen_types.py) out of Lean's own print of the program's types. -/
import Derived.Test.YtadlnnjgocknhabGA
import Derived.Test.YtadlnnjgocknhabProg
namespace Go.Proofs.Ytadlnnjgocknhab.Fw
open Go
set_option maxRecDepth 100000
/-- func() -/
def ti1 : TInfo := ⟨(TypeDesc.func #[] #[] false), false, 1, 8, [.raw .nilFunc], none, false, false⟩
theorem ti1_ok : TInfoOk Try.prog 1 ti1 := ⟨Try.underlying1, ⟨(.nilFunc), by kernel_rfl, rfl, rfl⟩, rfl, rfl, rfl, fun c h => (by first | (cases h; done) | (obtain rfl := Option.some.inj h; exact ⟨rfl, rfl, rfl⟩)), fun h => (by first | (cases h; done) | exact ⟨by kernel_rfl, by kernel_rfl, by kernel_rfl⟩)⟩
/-- int64 -/
def ti2 : TInfo := ⟨(TypeDesc.int IntKind.i64), false, 1, 8, [.int .i64 0], (some (.int .i64)), false, false⟩
theorem ti2_ok : TInfoOk Try.prog 2 ti2 := ⟨Try.underlying2, ⟨(.int .i64 0), by kernel_rfl, rfl, rfl⟩, rfl, rfl, rfl, fun c h => (by first | (cases h; done) | (obtain rfl := Option.some.inj h; exact ⟨rfl, rfl, rfl⟩)), fun h => (by first | (cases h; done) | exact ⟨by kernel_rfl, by kernel_rfl, by kernel_rfl⟩)⟩
/-- int -/
def ti3 : TInfo := ⟨(TypeDesc.int IntKind.i64), false, 1, 8, [.int .i64 0], (some (.int .i64)), false, false⟩
theorem ti3_ok : TInfoOk Try.prog 3 ti3 := ⟨Try.underlying3, ⟨(.int .i64 0), by kernel_rfl, rfl, rfl⟩, rfl, rfl, rfl, fun c h => (by first | (cases h; done) | (obtain rfl := Option.some.inj h; exact ⟨rfl, rfl, rfl⟩)), fun h => (by first | (cases h; done) | exact ⟨by kernel_rfl, by kernel_rfl, by kernel_rfl⟩)⟩
/-- bool -/
def ti4 : TInfo := ⟨TypeDesc.bool, false, 1, 1, [.bool false], (some (.bool)), false, false⟩
theorem ti4_ok : TInfoOk Try.prog 4 ti4 := ⟨Try.underlying4, ⟨(.bool false), by kernel_rfl, rfl, rfl⟩, rfl, rfl, rfl, fun c h => (by first | (cases h; done) | (obtain rfl := Option.some.inj h; exact ⟨rfl, rfl, rfl⟩)), fun h => (by first | (cases h; done) | exact ⟨by kernel_rfl, by kernel_rfl, by kernel_rfl⟩)⟩
/-- uint8 -/
def ti5 : TInfo := ⟨(TypeDesc.int IntKind.u8), false, 1, 1, [.int .u8 0], (some (.int .u8)), false, false⟩
theorem ti5_ok : TInfoOk Try.prog 5 ti5 := ⟨Try.underlying5, ⟨(.int .u8 0), by kernel_rfl, rfl, rfl⟩, rfl, rfl, rfl, fun c h => (by first | (cases h; done) | (obtain rfl := Option.some.inj h; exact ⟨rfl, rfl, rfl⟩)), fun h => (by first | (cases h; done) | exact ⟨by kernel_rfl, by kernel_rfl, by kernel_rfl⟩)⟩
/-- string -/
def ti9 : TInfo := ⟨TypeDesc.string, false, 1, 16, [.str ByteArray.empty], (some (.str)), false, false⟩
theorem ti9_ok : TInfoOk Try.prog 9 ti9 := ⟨Try.underlying9, ⟨(.string ByteArray.empty), by kernel_rfl, rfl, rfl⟩, rfl, rfl, rfl, fun c h => (by first | (cases h; done) | (obtain rfl := Option.some.inj h; exact ⟨rfl, rfl, rfl⟩)), fun h => (by first | (cases h; done) | exact ⟨by kernel_rfl, by kernel_rfl, by kernel_rfl⟩)⟩
/-- int32 -/
def ti21 : TInfo := ⟨(TypeDesc.int IntKind.i32), false, 1, 4, [.int .i32 0], (some (.int .i32)), false, false⟩
theorem ti21_ok : TInfoOk Try.prog 21 ti21 := ⟨Try.underlying21, ⟨(.int .i32 0), by kernel_rfl, rfl, rfl⟩, rfl, rfl, rfl, fun c h => (by first | (cases h; done) | (obtain rfl := Option.some.inj h; exact ⟨rfl, rfl, rfl⟩)), fun h => (by first | (cases h; done) | exact ⟨by kernel_rfl, by kernel_rfl, by kernel_rfl⟩)⟩
/-- []uint8 -/
def ti22 : TInfo := ⟨(TypeDesc.slice 5), false, 1, 24, [.raw (.slice none 0 0)], none, false, false⟩
theorem ti22_ok : TInfoOk Try.prog 22 ti22 := ⟨Try.underlying22, ⟨((.slice none 0 0)), by kernel_rfl, rfl, rfl⟩, rfl, rfl, rfl, fun c h => (by first | (cases h; done) | (obtain rfl := Option.some.inj h; exact ⟨rfl, rfl, rfl⟩)), fun h => (by first | (cases h; done) | exact ⟨by kernel_rfl, by kernel_rfl, by kernel_rfl⟩)⟩
/-- func([]uint8) bool -/
def ti23 : TInfo := ⟨(TypeDesc.func #[22] #[4] false), false, 1, 8, [.raw .nilFunc], none, false, false⟩
theorem ti23_ok : TInfoOk Try.prog 23 ti23 := ⟨Try.underlying23, ⟨(.nilFunc), by kernel_rfl, rfl, rfl⟩, rfl, rfl, rfl, fun c h => (by first | (cases h; done) | (obtain rfl := Option.some.inj h; exact ⟨rfl, rfl, rfl⟩)), fun h => (by first | (cases h; done) | exact ⟨by kernel_rfl, by kernel_rfl, by kernel_rfl⟩)⟩
/-- struct { Num int64; Den int64 } -/
def ti24 : TInfo := ⟨(TypeDesc.struct #[{ name := "Num", type := 2, offset := 0, embedded := false, tag := "", pkgPath := "", byteOffset := 0 }, { name := "Den", type := 2, offset := 1, embedded := false, tag := "", pkgPath := "", byteOffset := 8 }]), true, 2, 16, [.int .i64 0, .int .i64 0], (some (.pair (.int .i64) (.int .i64))), true, false⟩
theorem ti24_ok : TInfoOk Try.prog 24 ti24 := ⟨Try.underlying24, ⟨(.agg #[.int .i64 0, .int .i64 0]), by kernel_rfl, rfl, rfl⟩, rfl, rfl, rfl, fun c h => (by first | (cases h; done) | (obtain rfl := Option.some.inj h; exact ⟨rfl, rfl, rfl⟩)), fun h => (by first | (cases h; done) | exact ⟨by kernel_rfl, by kernel_rfl, by kernel_rfl⟩)⟩
/-- impl.Angle = loop.example/g01234/impl.Angle -/
def ti25 : TInfo := ⟨(TypeDesc.struct #[{ name := "Num", type := 2, offset := 0, embedded := false, tag := "", pkgPath := "", byteOffset := 0 }, { name := "Den", type := 2, offset := 1, embedded := false, tag := "", pkgPath := "", byteOffset := 8 }]), true, 2, 16, [.int .i64 0, .int .i64 0], (some (.pair (.int .i64) (.int .i64))), true, false⟩
theorem ti25_ok : TInfoOk Try.prog 25 ti25 := ⟨Try.underlying25, ⟨(.agg #[.int .i64 0, .int .i64 0]), by kernel_rfl, rfl, rfl⟩, rfl, rfl, rfl, fun c h => (by first | (cases h; done) | (obtain rfl := Option.some.inj h; exact ⟨rfl, rfl, rfl⟩)), fun h => (by first | (cases h; done) | exact ⟨by kernel_rfl, by kernel_rfl, by kernel_rfl⟩)⟩
/-- func([]uint8) impl.Angle -/
def ti26 : TInfo := ⟨(TypeDesc.func #[22] #[25] false), false, 1, 8, [.raw .nilFunc], none, false, false⟩
theorem ti26_ok : TInfoOk Try.prog 26 ti26 := ⟨Try.underlying26, ⟨(.nilFunc), by kernel_rfl, rfl, rfl⟩, rfl, rfl, rfl, fun c h => (by first | (cases h; done) | (obtain rfl := Option.some.inj h; exact ⟨rfl, rfl, rfl⟩)), fun h => (by first | (cases h; done) | exact ⟨by kernel_rfl, by kernel_rfl, by kernel_rfl⟩)⟩
/-- struct { Lower impl.Angle; Upper impl.Angle } -/
def ti27 : TInfo := ⟨(TypeDesc.struct #[{ name := "Lower", type := 25, offset := 0, embedded := false, tag := "", pkgPath := "", byteOffset := 0 }, { name := "Upper", type := 25, offset := 2, embedded := false, tag := "", pkgPath := "", byteOffset := 16 }]), true, 4, 32, [.int .i64 0, .int .i64 0, .int .i64 0, .int .i64 0], (some (.pair (.pair (.int .i64) (.int .i64)) (.pair (.int .i64) (.int .i64)))), true, false⟩
theorem ti27_ok : TInfoOk Try.prog 27 ti27 := ⟨Try.underlying27, ⟨(.agg #[.int .i64 0, .int .i64 0, .int .i64 0, .int .i64 0]), by kernel_rfl, rfl, rfl⟩, rfl, rfl, rfl, fun c h => (by first | (cases h; done) | (obtain rfl := Option.some.inj h; exact ⟨rfl, rfl, rfl⟩)), fun h => (by first | (cases h; done) | exact ⟨by kernel_rfl, by kernel_rfl, by kernel_rfl⟩)⟩
/-- impl.RayPair = loop.example/g01234/impl.RayPair -/
def ti28 : TInfo := ⟨(TypeDesc.struct #[{ name := "Lower", type := 25, offset := 0, embedded := false, tag := "", pkgPath := "", byteOffset := 0 }, { name := "Upper", type := 25, offset := 2, embedded := false, tag := "", pkgPath := "", byteOffset := 16 }]), true, 4, 32, [.int .i64 0, .int .i64 0, .int .i64 0, .int .i64 0], (some (.pair (.pair (.int .i64) (.int .i64)) (.pair (.int .i64) (.int .i64)))), true, false⟩
theorem ti28_ok : TInfoOk Try.prog 28 ti28 := ⟨Try.underlying28, ⟨(.agg #[.int .i64 0, .int .i64 0, .int .i64 0, .int .i64 0]), by kernel_rfl, rfl, rfl⟩, rfl, rfl, rfl, fun c h => (by first | (cases h; done) | (obtain rfl := Option.some.inj h; exact ⟨rfl, rfl, rfl⟩)), fun h => (by first | (cases h; done) | exact ⟨by kernel_rfl, by kernel_rfl, by kernel_rfl⟩)⟩
/-- func(impl.Angle) (impl.RayPair, int64) -/
def ti30 : TInfo := ⟨(TypeDesc.func #[25] #[28, 2] false), false, 1, 8, [.raw .nilFunc], none, false, false⟩
theorem ti30_ok : TInfoOk Try.prog 30 ti30 := ⟨Try.underlying30, ⟨(.nilFunc), by kernel_rfl, rfl, rfl⟩, rfl, rfl, rfl, fun c h => (by first | (cases h; done) | (obtain rfl := Option.some.inj h; exact ⟨rfl, rfl, rfl⟩)), fun h => (by first | (cases h; done) | exact ⟨by kernel_rfl, by kernel_rfl, by kernel_rfl⟩)⟩
/-- func([]uint8) (impl.Angle, impl.Angle) -/
def ti32 : TInfo := ⟨(TypeDesc.func #[22] #[25, 25] false), false, 1, 8, [.raw .nilFunc], none, false, false⟩
theorem ti32_ok : TInfoOk Try.prog 32 ti32 := ⟨Try.underlying32, ⟨(.nilFunc), by kernel_rfl, rfl, rfl⟩, rfl, rfl, rfl, fun c h => (by first | (cases h; done) | (obtain rfl := Option.some.inj h; exact ⟨rfl, rfl, rfl⟩)), fun h => (by first | (cases h; done) | exact ⟨by kernel_rfl, by kernel_rfl, by kernel_rfl⟩)⟩
/-- func(impl.Angle, impl.Angle) (bool, int64) -/
def ti34 : TInfo := ⟨(TypeDesc.func #[25, 25] #[4, 2] false), false, 1, 8, [.raw .nilFunc], none, false, false⟩
theorem ti34_ok : TInfoOk Try.prog 34 ti34 := ⟨Try.underlying34, ⟨(.nilFunc), by kernel_rfl, rfl, rfl⟩, rfl, rfl, rfl, fun c h => (by first | (cases h; done) | (obtain rfl := Option.some.inj h; exact ⟨rfl, rfl, rfl⟩)), fun h => (by first | (cases h; done) | exact ⟨by kernel_rfl, by kernel_rfl, by kernel_rfl⟩)⟩
/-- func(impl.Angle) (impl.Angle, int64) -/
def ti36 : TInfo := ⟨(TypeDesc.func #[25] #[25, 2] false), false, 1, 8, [.raw .nilFunc], none, false, false⟩
theorem ti36_ok : TInfoOk Try.prog 36 ti36 := ⟨Try.underlying36, ⟨(.nilFunc), by kernel_rfl, rfl, rfl⟩, rfl, rfl, rfl, fun c h => (by first | (cases h; done) | (obtain rfl := Option.some.inj h; exact ⟨rfl, rfl, rfl⟩)), fun h => (by first | (cases h; done) | exact ⟨by kernel_rfl, by kernel_rfl, by kernel_rfl⟩)⟩
/-- func(impl.Angle, impl.Angle) (impl.Angle, int64) -/
def ti37 : TInfo := ⟨(TypeDesc.func #[25, 25] #[25, 2] false), false, 1, 8, [.raw .nilFunc], none, false, false⟩
theorem ti37_ok : TInfoOk Try.prog 37 ti37 := ⟨Try.underlying37, ⟨(.nilFunc), by kernel_rfl, rfl, rfl⟩, rfl, rfl, rfl, fun c h => (by first | (cases h; done) | (obtain rfl := Option.some.inj h; exact ⟨rfl, rfl, rfl⟩)), fun h => (by first | (cases h; done) | exact ⟨by kernel_rfl, by kernel_rfl, by kernel_rfl⟩)⟩
/-- func(impl.Angle, impl.Angle) bool -/
def ti38 : TInfo := ⟨(TypeDesc.func #[25, 25] #[4] false), false, 1, 8, [.raw .nilFunc], none, false, false⟩
theorem ti38_ok : TInfoOk Try.prog 38 ti38 := ⟨Try.underlying38, ⟨(.nilFunc), by kernel_rfl, rfl, rfl⟩, rfl, rfl, rfl, fun c h => (by first | (cases h; done) | (obtain rfl := Option.some.inj h; exact ⟨rfl, rfl, rfl⟩)), fun h => (by first | (cases h; done) | exact ⟨by kernel_rfl, by kernel_rfl, by kernel_rfl⟩)⟩
/-- []impl.Angle -/
def ti39 : TInfo := ⟨(TypeDesc.slice 25), false, 1, 24, [.raw (.slice none 0 0)], none, false, false⟩
theorem ti39_ok : TInfoOk Try.prog 39 ti39 := ⟨Try.underlying39, ⟨((.slice none 0 0)), by kernel_rfl, rfl, rfl⟩, rfl, rfl, rfl, fun c h => (by first | (cases h; done) | (obtain rfl := Option.some.inj h; exact ⟨rfl, rfl, rfl⟩)), fun h => (by first | (cases h; done) | exact ⟨by kernel_rfl, by kernel_rfl, by kernel_rfl⟩)⟩
/-- func(impl.Angle) ([]impl.Angle, int64) -/
def ti41 : TInfo := ⟨(TypeDesc.func #[25] #[39, 2] false), false, 1, 8, [.raw .nilFunc], none, false, false⟩
theorem ti41_ok : TInfoOk Try.prog 41 ti41 := ⟨Try.underlying41, ⟨(.nilFunc), by kernel_rfl, rfl, rfl⟩, rfl, rfl, rfl, fun c h => (by first | (cases h; done) | (obtain rfl := Option.some.inj h; exact ⟨rfl, rfl, rfl⟩)), fun h => (by first | (cases h; done) | exact ⟨by kernel_rfl, by kernel_rfl, by kernel_rfl⟩)⟩
/-- func([]impl.Angle, []impl.Angle) bool -/
def ti42 : TInfo := ⟨(TypeDesc.func #[39, 39] #[4] false), false, 1, 8, [.raw .nilFunc], none, false, false⟩
theorem ti42_ok : TInfoOk Try.prog 42 ti42 := ⟨Try.underlying42, ⟨(.nilFunc), by kernel_rfl, rfl, rfl⟩, rfl, rfl, rfl, fun c h => (by first | (cases h; done) | (obtain rfl := Option.some.inj h; exact ⟨rfl, rfl, rfl⟩)), fun h => (by first | (cases h; done) | exact ⟨by kernel_rfl, by kernel_rfl, by kernel_rfl⟩)⟩
/-- func(impl.Angle) bool -/
def ti43 : TInfo := ⟨(TypeDesc.func #[25] #[4] false), false, 1, 8, [.raw .nilFunc], none, false, false⟩
theorem ti43_ok : TInfoOk Try.prog 43 ti43 := ⟨Try.underlying43, ⟨(.nilFunc), by kernel_rfl, rfl, rfl⟩, rfl, rfl, rfl, fun c h => (by first | (cases h; done) | (obtain rfl := Option.some.inj h; exact ⟨rfl, rfl, rfl⟩)), fun h => (by first | (cases h; done) | exact ⟨by kernel_rfl, by kernel_rfl, by kernel_rfl⟩)⟩
/-- []int64 -/
def ti44 : TInfo := ⟨(TypeDesc.slice 2), false, 1, 24, [.raw (.slice none 0 0)], none, false, false⟩
theorem ti44_ok : TInfoOk Try.prog 44 ti44 := ⟨Try.underlying44, ⟨((.slice none 0 0)), by kernel_rfl, rfl, rfl⟩, rfl, rfl, rfl, fun c h => (by first | (cases h; done) | (obtain rfl := Option.some.inj h; exact ⟨rfl, rfl, rfl⟩)), fun h => (by first | (cases h; done) | exact ⟨by kernel_rfl, by kernel_rfl, by kernel_rfl⟩)⟩
/-- func(impl.Angle) ([]int64, int64) -/
def ti46 : TInfo := ⟨(TypeDesc.func #[25] #[44, 2] false), false, 1, 8, [.raw .nilFunc], none, false, false⟩
theorem ti46_ok : TInfoOk Try.prog 46 ti46 := ⟨Try.underlying46, ⟨(.nilFunc), by kernel_rfl, rfl, rfl⟩, rfl, rfl, rfl, fun c h => (by first | (cases h; done) | (obtain rfl := Option.some.inj h; exact ⟨rfl, rfl, rfl⟩)), fun h => (by first | (cases h; done) | exact ⟨by kernel_rfl, by kernel_rfl, by kernel_rfl⟩)⟩
/-- func([]int64, []int64) bool -/
def ti47 : TInfo := ⟨(TypeDesc.func #[44, 44] #[4] false), false, 1, 8, [.raw .nilFunc], none, false, false⟩
theorem ti47_ok : TInfoOk Try.prog 47 ti47 := ⟨Try.underlying47, ⟨(.nilFunc), by kernel_rfl, rfl, rfl⟩, rfl, rfl, rfl, fun c h => (by first | (cases h; done) | (obtain rfl := Option.some.inj h; exact ⟨rfl, rfl, rfl⟩)), fun h => (by first | (cases h; done) | exact ⟨by kernel_rfl, by kernel_rfl, by kernel_rfl⟩)⟩
/-- func([]uint8) (int64, int64) -/
def ti49 : TInfo := ⟨(TypeDesc.func #[22] #[2, 2] false), false, 1, 8, [.raw .nilFunc], none, false, false⟩
theorem ti49_ok : TInfoOk Try.prog 49 ti49 := ⟨Try.underlying49, ⟨(.nilFunc), by kernel_rfl, rfl, rfl⟩, rfl, rfl, rfl, fun c h => (by first | (cases h; done) | (obtain rfl := Option.some.inj h; exact ⟨rfl, rfl, rfl⟩)), fun h => (by first | (cases h; done) | exact ⟨by kernel_rfl, by kernel_rfl, by kernel_rfl⟩)⟩
/-- func(int64, int64) (impl.Angle, int64) -/
def ti50 : TInfo := ⟨(TypeDesc.func #[2, 2] #[25, 2] false), false, 1, 8, [.raw .nilFunc], none, false, false⟩
theorem ti50_ok : TInfoOk Try.prog 50 ti50 := ⟨Try.underlying50, ⟨(.nilFunc), by kernel_rfl, rfl, rfl⟩, rfl, rfl, rfl, fun c h => (by first | (cases h; done) | (obtain rfl := Option.some.inj h; exact ⟨rfl, rfl, rfl⟩)), fun h => (by first | (cases h; done) | exact ⟨by kernel_rfl, by kernel_rfl, by kernel_rfl⟩)⟩
/-- func(int64, int64) ([]impl.Angle, int64) -/
def ti51 : TInfo := ⟨(TypeDesc.func #[2, 2] #[39, 2] false), false, 1, 8, [.raw .nilFunc], none, false, false⟩
theorem ti51_ok : TInfoOk Try.prog 51 ti51 := ⟨Try.underlying51, ⟨(.nilFunc), by kernel_rfl, rfl, rfl⟩, rfl, rfl, rfl, fun c h => (by first | (cases h; done) | (obtain rfl := Option.some.inj h; exact ⟨rfl, rfl, rfl⟩)), fun h => (by first | (cases h; done) | exact ⟨by kernel_rfl, by kernel_rfl, by kernel_rfl⟩)⟩
/-- func([]impl.Angle, int) int -/
def ti52 : TInfo := ⟨(TypeDesc.func #[39, 3] #[3] false), false, 1, 8, [.raw .nilFunc], none, false, false⟩
theorem ti52_ok : TInfoOk Try.prog 52 ti52 := ⟨Try.underlying52, ⟨(.nilFunc), by kernel_rfl, rfl, rfl⟩, rfl, rfl, rfl, fun c h => (by first | (cases h; done) | (obtain rfl := Option.some.inj h; exact ⟨rfl, rfl, rfl⟩)), fun h => (by first | (cases h; done) | exact ⟨by kernel_rfl, by kernel_rfl, by kernel_rfl⟩)⟩
/-- func(int64, int64) bool -/
def ti53 : TInfo := ⟨(TypeDesc.func #[2, 2] #[4] false), false, 1, 8, [.raw .nilFunc], none, false, false⟩
theorem ti53_ok : TInfoOk Try.prog 53 ti53 := ⟨Try.underlying53, ⟨(.nilFunc), by kernel_rfl, rfl, rfl⟩, rfl, rfl, rfl, fun c h => (by first | (cases h; done) | (obtain rfl := Option.some.inj h; exact ⟨rfl, rfl, rfl⟩)), fun h => (by first | (cases h; done) | exact ⟨by kernel_rfl, by kernel_rfl, by kernel_rfl⟩)⟩
/-- laws.Angle = loop.example/g01234/laws.Angle -/
def ti54 : TInfo := ⟨(TypeDesc.struct #[{ name := "Num", type := 2, offset := 0, embedded := false, tag := "", pkgPath := "", byteOffset := 0 }, { name := "Den", type := 2, offset := 1, embedded := false, tag := "", pkgPath := "", byteOffset := 8 }]), true, 2, 16, [.int .i64 0, .int .i64 0], (some (.pair (.int .i64) (.int .i64))), true, false⟩
theorem ti54_ok : TInfoOk Try.prog 54 ti54 := ⟨Try.underlying54, ⟨(.agg #[.int .i64 0, .int .i64 0]), by kernel_rfl, rfl, rfl⟩, rfl, rfl, rfl, fun c h => (by first | (cases h; done) | (obtain rfl := Option.some.inj h; exact ⟨rfl, rfl, rfl⟩)), fun h => (by first | (cases h; done) | exact ⟨by kernel_rfl, by kernel_rfl, by kernel_rfl⟩)⟩
/-- struct { First laws.Angle; Second laws.Angle } -/
def ti55 : TInfo := ⟨(TypeDesc.struct #[{ name := "First", type := 54, offset := 0, embedded := false, tag := "", pkgPath := "", byteOffset := 0 }, { name := "Second", type := 54, offset := 2, embedded := false, tag := "", pkgPath := "", byteOffset := 16 }]), true, 4, 32, [.int .i64 0, .int .i64 0, .int .i64 0, .int .i64 0], (some (.pair (.pair (.int .i64) (.int .i64)) (.pair (.int .i64) (.int .i64)))), true, false⟩
theorem ti55_ok : TInfoOk Try.prog 55 ti55 := ⟨Try.underlying55, ⟨(.agg #[.int .i64 0, .int .i64 0, .int .i64 0, .int .i64 0]), by kernel_rfl, rfl, rfl⟩, rfl, rfl, rfl, fun c h => (by first | (cases h; done) | (obtain rfl := Option.some.inj h; exact ⟨rfl, rfl, rfl⟩)), fun h => (by first | (cases h; done) | exact ⟨by kernel_rfl, by kernel_rfl, by kernel_rfl⟩)⟩
/-- laws.Leaf = loop.example/g01234/laws.Leaf -/
def ti56 : TInfo := ⟨(TypeDesc.struct #[{ name := "First", type := 54, offset := 0, embedded := false, tag := "", pkgPath := "", byteOffset := 0 }, { name := "Second", type := 54, offset := 2, embedded := false, tag := "", pkgPath := "", byteOffset := 16 }]), true, 4, 32, [.int .i64 0, .int .i64 0, .int .i64 0, .int .i64 0], (some (.pair (.pair (.int .i64) (.int .i64)) (.pair (.int .i64) (.int .i64)))), true, false⟩
theorem ti56_ok : TInfoOk Try.prog 56 ti56 := ⟨Try.underlying56, ⟨(.agg #[.int .i64 0, .int .i64 0, .int .i64 0, .int .i64 0]), by kernel_rfl, rfl, rfl⟩, rfl, rfl, rfl, fun c h => (by first | (cases h; done) | (obtain rfl := Option.some.inj h; exact ⟨rfl, rfl, rfl⟩)), fun h => (by first | (cases h; done) | exact ⟨by kernel_rfl, by kernel_rfl, by kernel_rfl⟩)⟩
/-- []impl.Leaf -/
def ti57 : TInfo := ⟨(TypeDesc.slice 61), false, 1, 24, [.raw (.slice none 0 0)], none, false, false⟩
theorem ti57_ok : TInfoOk Try.prog 57 ti57 := ⟨Try.underlying57, ⟨((.slice none 0 0)), by kernel_rfl, rfl, rfl⟩, rfl, rfl, rfl, fun c h => (by first | (cases h; done) | (obtain rfl := Option.some.inj h; exact ⟨rfl, rfl, rfl⟩)), fun h => (by first | (cases h; done) | exact ⟨by kernel_rfl, by kernel_rfl, by kernel_rfl⟩)⟩
/-- func(impl.Leaf, impl.Leaf) ([]impl.Leaf, int64) -/
def ti59 : TInfo := ⟨(TypeDesc.func #[61, 61] #[57, 2] false), false, 1, 8, [.raw .nilFunc], none, false, false⟩
theorem ti59_ok : TInfoOk Try.prog 59 ti59 := ⟨Try.underlying59, ⟨(.nilFunc), by kernel_rfl, rfl, rfl⟩, rfl, rfl, rfl, fun c h => (by first | (cases h; done) | (obtain rfl := Option.some.inj h; exact ⟨rfl, rfl, rfl⟩)), fun h => (by first | (cases h; done) | exact ⟨by kernel_rfl, by kernel_rfl, by kernel_rfl⟩)⟩
/-- struct { First impl.Angle; Second impl.Angle } -/
def ti60 : TInfo := ⟨(TypeDesc.struct #[{ name := "First", type := 25, offset := 0, embedded := false, tag := "", pkgPath := "", byteOffset := 0 }, { name := "Second", type := 25, offset := 2, embedded := false, tag := "", pkgPath := "", byteOffset := 16 }]), true, 4, 32, [.int .i64 0, .int .i64 0, .int .i64 0, .int .i64 0], (some (.pair (.pair (.int .i64) (.int .i64)) (.pair (.int .i64) (.int .i64)))), true, false⟩
theorem ti60_ok : TInfoOk Try.prog 60 ti60 := ⟨Try.underlying60, ⟨(.agg #[.int .i64 0, .int .i64 0, .int .i64 0, .int .i64 0]), by kernel_rfl, rfl, rfl⟩, rfl, rfl, rfl, fun c h => (by first | (cases h; done) | (obtain rfl := Option.some.inj h; exact ⟨rfl, rfl, rfl⟩)), fun h => (by first | (cases h; done) | exact ⟨by kernel_rfl, by kernel_rfl, by kernel_rfl⟩)⟩
/-- impl.Leaf = loop.example/g01234/impl.Leaf -/
def ti61 : TInfo := ⟨(TypeDesc.struct #[{ name := "First", type := 25, offset := 0, embedded := false, tag := "", pkgPath := "", byteOffset := 0 }, { name := "Second", type := 25, offset := 2, embedded := false, tag := "", pkgPath := "", byteOffset := 16 }]), true, 4, 32, [.int .i64 0, .int .i64 0, .int .i64 0, .int .i64 0], (some (.pair (.pair (.int .i64) (.int .i64)) (.pair (.int .i64) (.int .i64)))), true, false⟩
theorem ti61_ok : TInfoOk Try.prog 61 ti61 := ⟨Try.underlying61, ⟨(.agg #[.int .i64 0, .int .i64 0, .int .i64 0, .int .i64 0]), by kernel_rfl, rfl, rfl⟩, rfl, rfl, rfl, fun c h => (by first | (cases h; done) | (obtain rfl := Option.some.inj h; exact ⟨rfl, rfl, rfl⟩)), fun h => (by first | (cases h; done) | exact ⟨by kernel_rfl, by kernel_rfl, by kernel_rfl⟩)⟩
/-- func(laws.Leaf) impl.Leaf -/
def ti62 : TInfo := ⟨(TypeDesc.func #[56] #[61] false), false, 1, 8, [.raw .nilFunc], none, false, false⟩
theorem ti62_ok : TInfoOk Try.prog 62 ti62 := ⟨Try.underlying62, ⟨(.nilFunc), by kernel_rfl, rfl, rfl⟩, rfl, rfl, rfl, fun c h => (by first | (cases h; done) | (obtain rfl := Option.some.inj h; exact ⟨rfl, rfl, rfl⟩)), fun h => (by first | (cases h; done) | exact ⟨by kernel_rfl, by kernel_rfl, by kernel_rfl⟩)⟩
/-- func([]impl.Leaf, []impl.Leaf) bool -/
def ti63 : TInfo := ⟨(TypeDesc.func #[57, 57] #[4] false), false, 1, 8, [.raw .nilFunc], none, false, false⟩
theorem ti63_ok : TInfoOk Try.prog 63 ti63 := ⟨Try.underlying63, ⟨(.nilFunc), by kernel_rfl, rfl, rfl⟩, rfl, rfl, rfl, fun c h => (by first | (cases h; done) | (obtain rfl := Option.some.inj h; exact ⟨rfl, rfl, rfl⟩)), fun h => (by first | (cases h; done) | exact ⟨by kernel_rfl, by kernel_rfl, by kernel_rfl⟩)⟩
/-- func([]impl.Leaf, int) int -/
def ti64 : TInfo := ⟨(TypeDesc.func #[57, 3] #[3] false), false, 1, 8, [.raw .nilFunc], none, false, false⟩
theorem ti64_ok : TInfoOk Try.prog 64 ti64 := ⟨Try.underlying64, ⟨(.nilFunc), by kernel_rfl, rfl, rfl⟩, rfl, rfl, rfl, fun c h => (by first | (cases h; done) | (obtain rfl := Option.some.inj h; exact ⟨rfl, rfl, rfl⟩)), fun h => (by first | (cases h; done) | exact ⟨by kernel_rfl, by kernel_rfl, by kernel_rfl⟩)⟩
/-- func(laws.Leaf, laws.Leaf) bool -/
def ti65 : TInfo := ⟨(TypeDesc.func #[56, 56] #[4] false), false, 1, 8, [.raw .nilFunc], none, false, false⟩
theorem ti65_ok : TInfoOk Try.prog 65 ti65 := ⟨Try.underlying65, ⟨(.nilFunc), by kernel_rfl, rfl, rfl⟩, rfl, rfl, rfl, fun c h => (by first | (cases h; done) | (obtain rfl := Option.some.inj h; exact ⟨rfl, rfl, rfl⟩)), fun h => (by first | (cases h; done) | exact ⟨by kernel_rfl, by kernel_rfl, by kernel_rfl⟩)⟩
/-- *spec.l01Source -/
def ti66 : TInfo := ⟨(TypeDesc.pointer 101), false, 1, 8, [.raw (.pointer none)], none, false, false⟩
theorem ti66_ok : TInfoOk Try.prog 66 ti66 := ⟨Try.underlying66, ⟨((.pointer none)), by kernel_rfl, rfl, rfl⟩, rfl, rfl, rfl, fun c h => (by first | (cases h; done) | (obtain rfl := Option.some.inj h; exact ⟨rfl, rfl, rfl⟩)), fun h => (by first | (cases h; done) | exact ⟨by kernel_rfl, by kernel_rfl, by kernel_rfl⟩)⟩
/-- func([]uint8) *spec.l01Source -/
def ti67 : TInfo := ⟨(TypeDesc.func #[22] #[66] false), false, 1, 8, [.raw .nilFunc], none, false, false⟩
theorem ti67_ok : TInfoOk Try.prog 67 ti67 := ⟨Try.underlying67, ⟨(.nilFunc), by kernel_rfl, rfl, rfl⟩, rfl, rfl, rfl, fun c h => (by first | (cases h; done) | (obtain rfl := Option.some.inj h; exact ⟨rfl, rfl, rfl⟩)), fun h => (by first | (cases h; done) | exact ⟨by kernel_rfl, by kernel_rfl, by kernel_rfl⟩)⟩
/-- func(*spec.l01Source, int64) int64 -/
def ti68 : TInfo := ⟨(TypeDesc.func #[66, 2] #[2] false), false, 1, 8, [.raw .nilFunc], none, false, false⟩
theorem ti68_ok : TInfoOk Try.prog 68 ti68 := ⟨Try.underlying68, ⟨(.nilFunc), by kernel_rfl, rfl, rfl⟩, rfl, rfl, rfl, fun c h => (by first | (cases h; done) | (obtain rfl := Option.some.inj h; exact ⟨rfl, rfl, rfl⟩)), fun h => (by first | (cases h; done) | exact ⟨by kernel_rfl, by kernel_rfl, by kernel_rfl⟩)⟩
/-- func(*spec.l01Source) impl.Angle -/
def ti69 : TInfo := ⟨(TypeDesc.func #[66] #[25] false), false, 1, 8, [.raw .nilFunc], none, false, false⟩
theorem ti69_ok : TInfoOk Try.prog 69 ti69 := ⟨Try.underlying69, ⟨(.nilFunc), by kernel_rfl, rfl, rfl⟩, rfl, rfl, rfl, fun c h => (by first | (cases h; done) | (obtain rfl := Option.some.inj h; exact ⟨rfl, rfl, rfl⟩)), fun h => (by first | (cases h; done) | exact ⟨by kernel_rfl, by kernel_rfl, by kernel_rfl⟩)⟩
/-- func(...impl.Angle) int64 -/
def ti70 : TInfo := ⟨(TypeDesc.func #[39] #[2] true), false, 1, 8, [.raw .nilFunc], none, false, false⟩
theorem ti70_ok : TInfoOk Try.prog 70 ti70 := ⟨Try.underlying70, ⟨(.nilFunc), by kernel_rfl, rfl, rfl⟩, rfl, rfl, rfl, fun c h => (by first | (cases h; done) | (obtain rfl := Option.some.inj h; exact ⟨rfl, rfl, rfl⟩)), fun h => (by first | (cases h; done) | exact ⟨by kernel_rfl, by kernel_rfl, by kernel_rfl⟩)⟩
/-- func(impl.Angle) (impl.RayPair, bool) -/
def ti72 : TInfo := ⟨(TypeDesc.func #[25] #[28, 4] false), false, 1, 8, [.raw .nilFunc], none, false, false⟩
theorem ti72_ok : TInfoOk Try.prog 72 ti72 := ⟨Try.underlying72, ⟨(.nilFunc), by kernel_rfl, rfl, rfl⟩, rfl, rfl, rfl, fun c h => (by first | (cases h; done) | (obtain rfl := Option.some.inj h; exact ⟨rfl, rfl, rfl⟩)), fun h => (by first | (cases h; done) | exact ⟨by kernel_rfl, by kernel_rfl, by kernel_rfl⟩)⟩
/-- func() impl.Angle -/
def ti73 : TInfo := ⟨(TypeDesc.func #[] #[25] false), false, 1, 8, [.raw .nilFunc], none, false, false⟩
theorem ti73_ok : TInfoOk Try.prog 73 ti73 := ⟨Try.underlying73, ⟨(.nilFunc), by kernel_rfl, rfl, rfl⟩, rfl, rfl, rfl, fun c h => (by first | (cases h; done) | (obtain rfl := Option.some.inj h; exact ⟨rfl, rfl, rfl⟩)), fun h => (by first | (cases h; done) | exact ⟨by kernel_rfl, by kernel_rfl, by kernel_rfl⟩)⟩
/-- func(impl.Angle) impl.Angle -/
def ti74 : TInfo := ⟨(TypeDesc.func #[25] #[25] false), false, 1, 8, [.raw .nilFunc], none, false, false⟩
theorem ti74_ok : TInfoOk Try.prog 74 ti74 := ⟨Try.underlying74, ⟨(.nilFunc), by kernel_rfl, rfl, rfl⟩, rfl, rfl, rfl, fun c h => (by first | (cases h; done) | (obtain rfl := Option.some.inj h; exact ⟨rfl, rfl, rfl⟩)), fun h => (by first | (cases h; done) | exact ⟨by kernel_rfl, by kernel_rfl, by kernel_rfl⟩)⟩
/-- func() (impl.Angle, impl.Angle) -/
def ti75 : TInfo := ⟨(TypeDesc.func #[] #[25, 25] false), false, 1, 8, [.raw .nilFunc], none, false, false⟩
theorem ti75_ok : TInfoOk Try.prog 75 ti75 := ⟨Try.underlying75, ⟨(.nilFunc), by kernel_rfl, rfl, rfl⟩, rfl, rfl, rfl, fun c h => (by first | (cases h; done) | (obtain rfl := Option.some.inj h; exact ⟨rfl, rfl, rfl⟩)), fun h => (by first | (cases h; done) | exact ⟨by kernel_rfl, by kernel_rfl, by kernel_rfl⟩)⟩
/-- func(impl.Angle) (impl.Angle, impl.Angle, bool) -/
def ti77 : TInfo := ⟨(TypeDesc.func #[25] #[25, 25, 4] false), false, 1, 8, [.raw .nilFunc], none, false, false⟩
theorem ti77_ok : TInfoOk Try.prog 77 ti77 := ⟨Try.underlying77, ⟨(.nilFunc), by kernel_rfl, rfl, rfl⟩, rfl, rfl, rfl, fun c h => (by first | (cases h; done) | (obtain rfl := Option.some.inj h; exact ⟨rfl, rfl, rfl⟩)), fun h => (by first | (cases h; done) | exact ⟨by kernel_rfl, by kernel_rfl, by kernel_rfl⟩)⟩
/-- func(int64, int64, int64) bool -/
def ti78 : TInfo := ⟨(TypeDesc.func #[2, 2, 2] #[4] false), false, 1, 8, [.raw .nilFunc], none, false, false⟩
theorem ti78_ok : TInfoOk Try.prog 78 ti78 := ⟨Try.underlying78, ⟨(.nilFunc), by kernel_rfl, rfl, rfl⟩, rfl, rfl, rfl, fun c h => (by first | (cases h; done) | (obtain rfl := Option.some.inj h; exact ⟨rfl, rfl, rfl⟩)), fun h => (by first | (cases h; done) | exact ⟨by kernel_rfl, by kernel_rfl, by kernel_rfl⟩)⟩
/-- func(int64, int64) int64 -/
def ti79 : TInfo := ⟨(TypeDesc.func #[2, 2] #[2] false), false, 1, 8, [.raw .nilFunc], none, false, false⟩
theorem ti79_ok : TInfoOk Try.prog 79 ti79 := ⟨Try.underlying79, ⟨(.nilFunc), by kernel_rfl, rfl, rfl⟩, rfl, rfl, rfl, fun c h => (by first | (cases h; done) | (obtain rfl := Option.some.inj h; exact ⟨rfl, rfl, rfl⟩)), fun h => (by first | (cases h; done) | exact ⟨by kernel_rfl, by kernel_rfl, by kernel_rfl⟩)⟩
/-- func(impl.Angle) ([]impl.Angle, int, int64) -/
def ti81 : TInfo := ⟨(TypeDesc.func #[25] #[39, 3, 2] false), false, 1, 8, [.raw .nilFunc], none, false, false⟩
theorem ti81_ok : TInfoOk Try.prog 81 ti81 := ⟨Try.underlying81, ⟨(.nilFunc), by kernel_rfl, rfl, rfl⟩, rfl, rfl, rfl, fun c h => (by first | (cases h; done) | (obtain rfl := Option.some.inj h; exact ⟨rfl, rfl, rfl⟩)), fun h => (by first | (cases h; done) | exact ⟨by kernel_rfl, by kernel_rfl, by kernel_rfl⟩)⟩
/-- func(impl.Angle) ([]impl.Angle, int64, bool) -/
def ti83 : TInfo := ⟨(TypeDesc.func #[25] #[39, 2, 4] false), false, 1, 8, [.raw .nilFunc], none, false, false⟩
theorem ti83_ok : TInfoOk Try.prog 83 ti83 := ⟨Try.underlying83, ⟨(.nilFunc), by kernel_rfl, rfl, rfl⟩, rfl, rfl, rfl, fun c h => (by first | (cases h; done) | (obtain rfl := Option.some.inj h; exact ⟨rfl, rfl, rfl⟩)), fun h => (by first | (cases h; done) | exact ⟨by kernel_rfl, by kernel_rfl, by kernel_rfl⟩)⟩
/-- func(impl.Angle, impl.Angle) impl.Angle -/
def ti84 : TInfo := ⟨(TypeDesc.func #[25, 25] #[25] false), false, 1, 8, [.raw .nilFunc], none, false, false⟩
theorem ti84_ok : TInfoOk Try.prog 84 ti84 := ⟨Try.underlying84, ⟨(.nilFunc), by kernel_rfl, rfl, rfl⟩, rfl, rfl, rfl, fun c h => (by first | (cases h; done) | (obtain rfl := Option.some.inj h; exact ⟨rfl, rfl, rfl⟩)), fun h => (by first | (cases h; done) | exact ⟨by kernel_rfl, by kernel_rfl, by kernel_rfl⟩)⟩
/-- func(*spec.l01Source, ...int64) int64 -/
def ti85 : TInfo := ⟨(TypeDesc.func #[66, 44] #[2] true), false, 1, 8, [.raw .nilFunc], none, false, false⟩
theorem ti85_ok : TInfoOk Try.prog 85 ti85 := ⟨Try.underlying85, ⟨(.nilFunc), by kernel_rfl, rfl, rfl⟩, rfl, rfl, rfl, fun c h => (by first | (cases h; done) | (obtain rfl := Option.some.inj h; exact ⟨rfl, rfl, rfl⟩)), fun h => (by first | (cases h; done) | exact ⟨by kernel_rfl, by kernel_rfl, by kernel_rfl⟩)⟩
/-- func(int64, int64) impl.Angle -/
def ti86 : TInfo := ⟨(TypeDesc.func #[2, 2] #[25] false), false, 1, 8, [.raw .nilFunc], none, false, false⟩
theorem ti86_ok : TInfoOk Try.prog 86 ti86 := ⟨Try.underlying86, ⟨(.nilFunc), by kernel_rfl, rfl, rfl⟩, rfl, rfl, rfl, fun c h => (by first | (cases h; done) | (obtain rfl := Option.some.inj h; exact ⟨rfl, rfl, rfl⟩)), fun h => (by first | (cases h; done) | exact ⟨by kernel_rfl, by kernel_rfl, by kernel_rfl⟩)⟩
/-- func(int64, int64) []impl.Angle -/
def ti87 : TInfo := ⟨(TypeDesc.func #[2, 2] #[39] false), false, 1, 8, [.raw .nilFunc], none, false, false⟩
theorem ti87_ok : TInfoOk Try.prog 87 ti87 := ⟨Try.underlying87, ⟨(.nilFunc), by kernel_rfl, rfl, rfl⟩, rfl, rfl, rfl, fun c h => (by first | (cases h; done) | (obtain rfl := Option.some.inj h; exact ⟨rfl, rfl, rfl⟩)), fun h => (by first | (cases h; done) | exact ⟨by kernel_rfl, by kernel_rfl, by kernel_rfl⟩)⟩
/-- func([]impl.Angle) []impl.Angle -/
def ti88 : TInfo := ⟨(TypeDesc.func #[39] #[39] false), false, 1, 8, [.raw .nilFunc], none, false, false⟩
theorem ti88_ok : TInfoOk Try.prog 88 ti88 := ⟨Try.underlying88, ⟨(.nilFunc), by kernel_rfl, rfl, rfl⟩, rfl, rfl, rfl, fun c h => (by first | (cases h; done) | (obtain rfl := Option.some.inj h; exact ⟨rfl, rfl, rfl⟩)), fun h => (by first | (cases h; done) | exact ⟨by kernel_rfl, by kernel_rfl, by kernel_rfl⟩)⟩
/-- func(impl.Leaf) bool -/
def ti89 : TInfo := ⟨(TypeDesc.func #[61] #[4] false), false, 1, 8, [.raw .nilFunc], none, false, false⟩
theorem ti89_ok : TInfoOk Try.prog 89 ti89 := ⟨Try.underlying89, ⟨(.nilFunc), by kernel_rfl, rfl, rfl⟩, rfl, rfl, rfl, fun c h => (by first | (cases h; done) | (obtain rfl := Option.some.inj h; exact ⟨rfl, rfl, rfl⟩)), fun h => (by first | (cases h; done) | exact ⟨by kernel_rfl, by kernel_rfl, by kernel_rfl⟩)⟩
/-- func(impl.Leaf) ([]impl.Leaf, int64) -/
def ti90 : TInfo := ⟨(TypeDesc.func #[61] #[57, 2] false), false, 1, 8, [.raw .nilFunc], none, false, false⟩
theorem ti90_ok : TInfoOk Try.prog 90 ti90 := ⟨Try.underlying90, ⟨(.nilFunc), by kernel_rfl, rfl, rfl⟩, rfl, rfl, rfl, fun c h => (by first | (cases h; done) | (obtain rfl := Option.some.inj h; exact ⟨rfl, rfl, rfl⟩)), fun h => (by first | (cases h; done) | exact ⟨by kernel_rfl, by kernel_rfl, by kernel_rfl⟩)⟩
/-- func(impl.Leaf, impl.Leaf, []impl.Leaf) ([]impl.Leaf, int64) -/
def ti91 : TInfo := ⟨(TypeDesc.func #[61, 61, 57] #[57, 2] false), false, 1, 8, [.raw .nilFunc], none, false, false⟩
theorem ti91_ok : TInfoOk Try.prog 91 ti91 := ⟨Try.underlying91, ⟨(.nilFunc), by kernel_rfl, rfl, rfl⟩, rfl, rfl, rfl, fun c h => (by first | (cases h; done) | (obtain rfl := Option.some.inj h; exact ⟨rfl, rfl, rfl⟩)), fun h => (by first | (cases h; done) | exact ⟨by kernel_rfl, by kernel_rfl, by kernel_rfl⟩)⟩
/-- func(laws.Angle) impl.Angle -/
def ti92 : TInfo := ⟨(TypeDesc.func #[54] #[25] false), false, 1, 8, [.raw .nilFunc], none, false, false⟩
theorem ti92_ok : TInfoOk Try.prog 92 ti92 := ⟨Try.underlying92, ⟨(.nilFunc), by kernel_rfl, rfl, rfl⟩, rfl, rfl, rfl, fun c h => (by first | (cases h; done) | (obtain rfl := Option.some.inj h; exact ⟨rfl, rfl, rfl⟩)), fun h => (by first | (cases h; done) | exact ⟨by kernel_rfl, by kernel_rfl, by kernel_rfl⟩)⟩
/-- struct { leaf impl.Leaf; images []impl.Leaf; majors []impl.Leaf; fails int64 } -/
def ti93 : TInfo := ⟨(TypeDesc.struct #[{ name := "leaf", type := 61, offset := 0, embedded := false, tag := "", pkgPath := "loop.example/g01234/impl", byteOffset := 0 }, { name := "images", type := 57, offset := 4, embedded := false, tag := "", pkgPath := "loop.example/g01234/impl", byteOffset := 32 }, { name := "majors", type := 57, offset := 5, embedded := false, tag := "", pkgPath := "loop.example/g01234/impl", byteOffset := 56 }, { name := "fails", type := 2, offset := 6, embedded := false, tag := "", pkgPath := "loop.example/g01234/impl", byteOffset := 80 }]), true, 7, 88, [.int .i64 0, .int .i64 0, .int .i64 0, .int .i64 0, .raw (.slice none 0 0), .raw (.slice none 0 0), .int .i64 0], none, false, false⟩
theorem ti93_ok : TInfoOk Try.prog 93 ti93 := ⟨Try.underlying93, ⟨(.agg #[.int .i64 0, .int .i64 0, .int .i64 0, .int .i64 0, (.slice none 0 0), (.slice none 0 0), .int .i64 0]), by kernel_rfl, rfl, rfl⟩, rfl, rfl, rfl, fun c h => (by first | (cases h; done) | (obtain rfl := Option.some.inj h; exact ⟨rfl, rfl, rfl⟩)), fun h => (by first | (cases h; done) | exact ⟨by kernel_rfl, by kernel_rfl, by kernel_rfl⟩)⟩
/-- impl.minor = loop.example/g01234/impl.minor -/
def ti94 : TInfo := ⟨(TypeDesc.struct #[{ name := "leaf", type := 61, offset := 0, embedded := false, tag := "", pkgPath := "loop.example/g01234/impl", byteOffset := 0 }, { name := "images", type := 57, offset := 4, embedded := false, tag := "", pkgPath := "loop.example/g01234/impl", byteOffset := 32 }, { name := "majors", type := 57, offset := 5, embedded := false, tag := "", pkgPath := "loop.example/g01234/impl", byteOffset := 56 }, { name := "fails", type := 2, offset := 6, embedded := false, tag := "", pkgPath := "loop.example/g01234/impl", byteOffset := 80 }]), true, 7, 88, [.int .i64 0, .int .i64 0, .int .i64 0, .int .i64 0, .raw (.slice none 0 0), .raw (.slice none 0 0), .int .i64 0], none, false, false⟩
theorem ti94_ok : TInfoOk Try.prog 94 ti94 := ⟨Try.underlying94, ⟨(.agg #[.int .i64 0, .int .i64 0, .int .i64 0, .int .i64 0, (.slice none 0 0), (.slice none 0 0), .int .i64 0]), by kernel_rfl, rfl, rfl⟩, rfl, rfl, rfl, fun c h => (by first | (cases h; done) | (obtain rfl := Option.some.inj h; exact ⟨rfl, rfl, rfl⟩)), fun h => (by first | (cases h; done) | exact ⟨by kernel_rfl, by kernel_rfl, by kernel_rfl⟩)⟩
/-- func(impl.Leaf, bool, ...impl.Leaf) (impl.minor, int64) -/
def ti96 : TInfo := ⟨(TypeDesc.func #[61, 4, 57] #[94, 2] true), false, 1, 8, [.raw .nilFunc], none, false, false⟩
theorem ti96_ok : TInfoOk Try.prog 96 ti96 := ⟨Try.underlying96, ⟨(.nilFunc), by kernel_rfl, rfl, rfl⟩, rfl, rfl, rfl, fun c h => (by first | (cases h; done) | (obtain rfl := Option.some.inj h; exact ⟨rfl, rfl, rfl⟩)), fun h => (by first | (cases h; done) | exact ⟨by kernel_rfl, by kernel_rfl, by kernel_rfl⟩)⟩
/-- func([]impl.Leaf) []impl.Leaf -/
def ti97 : TInfo := ⟨(TypeDesc.func #[57] #[57] false), false, 1, 8, [.raw .nilFunc], none, false, false⟩
theorem ti97_ok : TInfoOk Try.prog 97 ti97 := ⟨Try.underlying97, ⟨(.nilFunc), by kernel_rfl, rfl, rfl⟩, rfl, rfl, rfl, fun c h => (by first | (cases h; done) | (obtain rfl := Option.some.inj h; exact ⟨rfl, rfl, rfl⟩)), fun h => (by first | (cases h; done) | exact ⟨by kernel_rfl, by kernel_rfl, by kernel_rfl⟩)⟩
/-- func(impl.Leaf, impl.Leaf) bool -/
def ti98 : TInfo := ⟨(TypeDesc.func #[61, 61] #[4] false), false, 1, 8, [.raw .nilFunc], none, false, false⟩
theorem ti98_ok : TInfoOk Try.prog 98 ti98 := ⟨Try.underlying98, ⟨(.nilFunc), by kernel_rfl, rfl, rfl⟩, rfl, rfl, rfl, fun c h => (by first | (cases h; done) | (obtain rfl := Option.some.inj h; exact ⟨rfl, rfl, rfl⟩)), fun h => (by first | (cases h; done) | exact ⟨by kernel_rfl, by kernel_rfl, by kernel_rfl⟩)⟩
/-- uint64 -/
def ti99 : TInfo := ⟨(TypeDesc.int IntKind.u64), false, 1, 8, [.int .u64 0], (some (.int .u64)), false, false⟩
theorem ti99_ok : TInfoOk Try.prog 99 ti99 := ⟨Try.underlying99, ⟨(.int .u64 0), by kernel_rfl, rfl, rfl⟩, rfl, rfl, rfl, fun c h => (by first | (cases h; done) | (obtain rfl := Option.some.inj h; exact ⟨rfl, rfl, rfl⟩)), fun h => (by first | (cases h; done) | exact ⟨by kernel_rfl, by kernel_rfl, by kernel_rfl⟩)⟩
/-- struct { code []uint8; at int; hash uint64 } -/
def ti100 : TInfo := ⟨(TypeDesc.struct #[{ name := "code", type := 22, offset := 0, embedded := false, tag := "", pkgPath := "loop.example/g01234/spec", byteOffset := 0 }, { name := "at", type := 3, offset := 1, embedded := false, tag := "", pkgPath := "loop.example/g01234/spec", byteOffset := 24 }, { name := "hash", type := 99, offset := 2, embedded := false, tag := "", pkgPath := "loop.example/g01234/spec", byteOffset := 32 }]), true, 3, 40, [.raw (.slice none 0 0), .int .i64 0, .int .u64 0], none, false, false⟩
theorem ti100_ok : TInfoOk Try.prog 100 ti100 := ⟨Try.underlying100, ⟨(.agg #[(.slice none 0 0), .int .i64 0, .int .u64 0]), by kernel_rfl, rfl, rfl⟩, rfl, rfl, rfl, fun c h => (by first | (cases h; done) | (obtain rfl := Option.some.inj h; exact ⟨rfl, rfl, rfl⟩)), fun h => (by first | (cases h; done) | exact ⟨by kernel_rfl, by kernel_rfl, by kernel_rfl⟩)⟩
/-- spec.l01Source = loop.example/g01234/spec.l01Source -/
def ti101 : TInfo := ⟨(TypeDesc.struct #[{ name := "code", type := 22, offset := 0, embedded := false, tag := "", pkgPath := "loop.example/g01234/spec", byteOffset := 0 }, { name := "at", type := 3, offset := 1, embedded := false, tag := "", pkgPath := "loop.example/g01234/spec", byteOffset := 24 }, { name := "hash", type := 99, offset := 2, embedded := false, tag := "", pkgPath := "loop.example/g01234/spec", byteOffset := 32 }]), true, 3, 40, [.raw (.slice none 0 0), .int .i64 0, .int .u64 0], none, false, false⟩
theorem ti101_ok : TInfoOk Try.prog 101 ti101 := ⟨Try.underlying101, ⟨(.agg #[(.slice none 0 0), .int .i64 0, .int .u64 0]), by kernel_rfl, rfl, rfl⟩, rfl, rfl, rfl, fun c h => (by first | (cases h; done) | (obtain rfl := Option.some.inj h; exact ⟨rfl, rfl, rfl⟩)), fun h => (by first | (cases h; done) | exact ⟨by kernel_rfl, by kernel_rfl, by kernel_rfl⟩)⟩
/-- uint -/
def ti102 : TInfo := ⟨(TypeDesc.int IntKind.u64), false, 1, 8, [.int .u64 0], (some (.int .u64)), false, false⟩
theorem ti102_ok : TInfoOk Try.prog 102 ti102 := ⟨Try.underlying102, ⟨(.int .u64 0), by kernel_rfl, rfl, rfl⟩, rfl, rfl, rfl, fun c h => (by first | (cases h; done) | (obtain rfl := Option.some.inj h; exact ⟨rfl, rfl, rfl⟩)), fun h => (by first | (cases h; done) | exact ⟨by kernel_rfl, by kernel_rfl, by kernel_rfl⟩)⟩
/-- func(*spec.l01Source, impl.Angle) impl.Angle -/
def ti103 : TInfo := ⟨(TypeDesc.func #[66, 25] #[25] false), false, 1, 8, [.raw .nilFunc], none, false, false⟩
theorem ti103_ok : TInfoOk Try.prog 103 ti103 := ⟨Try.underlying103, ⟨(.nilFunc), by kernel_rfl, rfl, rfl⟩, rfl, rfl, rfl, fun c h => (by first | (cases h; done) | (obtain rfl := Option.some.inj h; exact ⟨rfl, rfl, rfl⟩)), fun h => (by first | (cases h; done) | exact ⟨by kernel_rfl, by kernel_rfl, by kernel_rfl⟩)⟩
/-- func([]impl.Angle, func(impl.Angle) bool) bool -/
def ti104 : TInfo := ⟨(TypeDesc.func #[39, 43] #[4] false), false, 1, 8, [.raw .nilFunc], none, false, false⟩
theorem ti104_ok : TInfoOk Try.prog 104 ti104 := ⟨Try.underlying104, ⟨(.nilFunc), by kernel_rfl, rfl, rfl⟩, rfl, rfl, rfl, fun c h => (by first | (cases h; done) | (obtain rfl := Option.some.inj h; exact ⟨rfl, rfl, rfl⟩)), fun h => (by first | (cases h; done) | exact ⟨by kernel_rfl, by kernel_rfl, by kernel_rfl⟩)⟩
/-- []impl.RayPair -/
def ti105 : TInfo := ⟨(TypeDesc.slice 28), false, 1, 24, [.raw (.slice none 0 0)], none, false, false⟩
theorem ti105_ok : TInfoOk Try.prog 105 ti105 := ⟨Try.underlying105, ⟨((.slice none 0 0)), by kernel_rfl, rfl, rfl⟩, rfl, rfl, rfl, fun c h => (by first | (cases h; done) | (obtain rfl := Option.some.inj h; exact ⟨rfl, rfl, rfl⟩)), fun h => (by first | (cases h; done) | exact ⟨by kernel_rfl, by kernel_rfl, by kernel_rfl⟩)⟩
/-- func(int64) []impl.RayPair -/
def ti106 : TInfo := ⟨(TypeDesc.func #[2] #[105] false), false, 1, 8, [.raw .nilFunc], none, false, false⟩
theorem ti106_ok : TInfoOk Try.prog 106 ti106 := ⟨Try.underlying106, ⟨(.nilFunc), by kernel_rfl, rfl, rfl⟩, rfl, rfl, rfl, fun c h => (by first | (cases h; done) | (obtain rfl := Option.some.inj h; exact ⟨rfl, rfl, rfl⟩)), fun h => (by first | (cases h; done) | exact ⟨by kernel_rfl, by kernel_rfl, by kernel_rfl⟩)⟩
/-- func(impl.Angle) int -/
def ti107 : TInfo := ⟨(TypeDesc.func #[25] #[3] false), false, 1, 8, [.raw .nilFunc], none, false, false⟩
theorem ti107_ok : TInfoOk Try.prog 107 ti107 := ⟨Try.underlying107, ⟨(.nilFunc), by kernel_rfl, rfl, rfl⟩, rfl, rfl, rfl, fun c h => (by first | (cases h; done) | (obtain rfl := Option.some.inj h; exact ⟨rfl, rfl, rfl⟩)), fun h => (by first | (cases h; done) | exact ⟨by kernel_rfl, by kernel_rfl, by kernel_rfl⟩)⟩
/-- func(impl.Angle, impl.RayPair) bool -/
def ti108 : TInfo := ⟨(TypeDesc.func #[25, 28] #[4] false), false, 1, 8, [.raw .nilFunc], none, false, false⟩
theorem ti108_ok : TInfoOk Try.prog 108 ti108 := ⟨Try.underlying108, ⟨(.nilFunc), by kernel_rfl, rfl, rfl⟩, rfl, rfl, rfl, fun c h => (by first | (cases h; done) | (obtain rfl := Option.some.inj h; exact ⟨rfl, rfl, rfl⟩)), fun h => (by first | (cases h; done) | exact ⟨by kernel_rfl, by kernel_rfl, by kernel_rfl⟩)⟩
/-- func() ([]impl.Angle, int, bool) -/
def ti110 : TInfo := ⟨(TypeDesc.func #[] #[39, 3, 4] false), false, 1, 8, [.raw .nilFunc], none, false, false⟩
theorem ti110_ok : TInfoOk Try.prog 110 ti110 := ⟨Try.underlying110, ⟨(.nilFunc), by kernel_rfl, rfl, rfl⟩, rfl, rfl, rfl, fun c h => (by first | (cases h; done) | (obtain rfl := Option.some.inj h; exact ⟨rfl, rfl, rfl⟩)), fun h => (by first | (cases h; done) | exact ⟨by kernel_rfl, by kernel_rfl, by kernel_rfl⟩)⟩
/-- func([]impl.Angle, impl.Angle) []impl.Angle -/
def ti111 : TInfo := ⟨(TypeDesc.func #[39, 25] #[39] false), false, 1, 8, [.raw .nilFunc], none, false, false⟩
theorem ti111_ok : TInfoOk Try.prog 111 ti111 := ⟨Try.underlying111, ⟨(.nilFunc), by kernel_rfl, rfl, rfl⟩, rfl, rfl, rfl, fun c h => (by first | (cases h; done) | (obtain rfl := Option.some.inj h; exact ⟨rfl, rfl, rfl⟩)), fun h => (by first | (cases h; done) | exact ⟨by kernel_rfl, by kernel_rfl, by kernel_rfl⟩)⟩
/-- func(iter.Seq[loop.example/g01234/impl.Angle], func(impl.Angle, impl.Angle) int) []impl.Angle -/
def ti112 : TInfo := ⟨(TypeDesc.func #[114, 116] #[39] false), false, 1, 8, [.raw .nilFunc], none, false, false⟩
theorem ti112_ok : TInfoOk Try.prog 112 ti112 := ⟨Try.underlying112, ⟨(.nilFunc), by kernel_rfl, rfl, rfl⟩, rfl, rfl, rfl, fun c h => (by first | (cases h; done) | (obtain rfl := Option.some.inj h; exact ⟨rfl, rfl, rfl⟩)), fun h => (by first | (cases h; done) | exact ⟨by kernel_rfl, by kernel_rfl, by kernel_rfl⟩)⟩
/-- func(func(impl.Angle) bool) -/
def ti113 : TInfo := ⟨(TypeDesc.func #[43] #[] false), false, 1, 8, [.raw .nilFunc], none, false, false⟩
theorem ti113_ok : TInfoOk Try.prog 113 ti113 := ⟨Try.underlying113, ⟨(.nilFunc), by kernel_rfl, rfl, rfl⟩, rfl, rfl, rfl, fun c h => (by first | (cases h; done) | (obtain rfl := Option.some.inj h; exact ⟨rfl, rfl, rfl⟩)), fun h => (by first | (cases h; done) | exact ⟨by kernel_rfl, by kernel_rfl, by kernel_rfl⟩)⟩
/-- iter.Seq[loop.example/g01234/impl.Angle] -/
def ti114 : TInfo := ⟨(TypeDesc.func #[43] #[] false), false, 1, 8, [.raw .nilFunc], none, false, false⟩
theorem ti114_ok : TInfoOk Try.prog 114 ti114 := ⟨Try.underlying114, ⟨(.nilFunc), by kernel_rfl, rfl, rfl⟩, rfl, rfl, rfl, fun c h => (by first | (cases h; done) | (obtain rfl := Option.some.inj h; exact ⟨rfl, rfl, rfl⟩)), fun h => (by first | (cases h; done) | exact ⟨by kernel_rfl, by kernel_rfl, by kernel_rfl⟩)⟩
/-- func([]impl.Angle) iter.Seq[loop.example/g01234/impl.Angle] -/
def ti115 : TInfo := ⟨(TypeDesc.func #[39] #[114] false), false, 1, 8, [.raw .nilFunc], none, false, false⟩
theorem ti115_ok : TInfoOk Try.prog 115 ti115 := ⟨Try.underlying115, ⟨(.nilFunc), by kernel_rfl, rfl, rfl⟩, rfl, rfl, rfl, fun c h => (by first | (cases h; done) | (obtain rfl := Option.some.inj h; exact ⟨rfl, rfl, rfl⟩)), fun h => (by first | (cases h; done) | exact ⟨by kernel_rfl, by kernel_rfl, by kernel_rfl⟩)⟩
/-- func(impl.Angle, impl.Angle) int -/
def ti116 : TInfo := ⟨(TypeDesc.func #[25, 25] #[3] false), false, 1, 8, [.raw .nilFunc], none, false, false⟩
theorem ti116_ok : TInfoOk Try.prog 116 ti116 := ⟨Try.underlying116, ⟨(.nilFunc), by kernel_rfl, rfl, rfl⟩, rfl, rfl, rfl, fun c h => (by first | (cases h; done) | (obtain rfl := Option.some.inj h; exact ⟨rfl, rfl, rfl⟩)), fun h => (by first | (cases h; done) | exact ⟨by kernel_rfl, by kernel_rfl, by kernel_rfl⟩)⟩
/-- func(impl.Leaf) (int64, bool) -/
def ti118 : TInfo := ⟨(TypeDesc.func #[61] #[2, 4] false), false, 1, 8, [.raw .nilFunc], none, false, false⟩
theorem ti118_ok : TInfoOk Try.prog 118 ti118 := ⟨Try.underlying118, ⟨(.nilFunc), by kernel_rfl, rfl, rfl⟩, rfl, rfl, rfl, fun c h => (by first | (cases h; done) | (obtain rfl := Option.some.inj h; exact ⟨rfl, rfl, rfl⟩)), fun h => (by first | (cases h; done) | exact ⟨by kernel_rfl, by kernel_rfl, by kernel_rfl⟩)⟩
/-- func(impl.Leaf) ([]impl.Leaf, bool) -/
def ti120 : TInfo := ⟨(TypeDesc.func #[61] #[57, 4] false), false, 1, 8, [.raw .nilFunc], none, false, false⟩
theorem ti120_ok : TInfoOk Try.prog 120 ti120 := ⟨Try.underlying120, ⟨(.nilFunc), by kernel_rfl, rfl, rfl⟩, rfl, rfl, rfl, fun c h => (by first | (cases h; done) | (obtain rfl := Option.some.inj h; exact ⟨rfl, rfl, rfl⟩)), fun h => (by first | (cases h; done) | exact ⟨by kernel_rfl, by kernel_rfl, by kernel_rfl⟩)⟩
/-- func(impl.Leaf, impl.Leaf) []impl.Leaf -/
def ti121 : TInfo := ⟨(TypeDesc.func #[61, 61] #[57] false), false, 1, 8, [.raw .nilFunc], none, false, false⟩
theorem ti121_ok : TInfoOk Try.prog 121 ti121 := ⟨Try.underlying121, ⟨(.nilFunc), by kernel_rfl, rfl, rfl⟩, rfl, rfl, rfl, fun c h => (by first | (cases h; done) | (obtain rfl := Option.some.inj h; exact ⟨rfl, rfl, rfl⟩)), fun h => (by first | (cases h; done) | exact ⟨by kernel_rfl, by kernel_rfl, by kernel_rfl⟩)⟩
/-- func(impl.Angle, impl.Angle) impl.Leaf -/
def ti122 : TInfo := ⟨(TypeDesc.func #[25, 25] #[61] false), false, 1, 8, [.raw .nilFunc], none, false, false⟩
theorem ti122_ok : TInfoOk Try.prog 122 ti122 := ⟨Try.underlying122, ⟨(.nilFunc), by kernel_rfl, rfl, rfl⟩, rfl, rfl, rfl, fun c h => (by first | (cases h; done) | (obtain rfl := Option.some.inj h; exact ⟨rfl, rfl, rfl⟩)), fun h => (by first | (cases h; done) | exact ⟨by kernel_rfl, by kernel_rfl, by kernel_rfl⟩)⟩
/-- func(...impl.Leaf) int64 -/
def ti123 : TInfo := ⟨(TypeDesc.func #[57] #[2] true), false, 1, 8, [.raw .nilFunc], none, false, false⟩
theorem ti123_ok : TInfoOk Try.prog 123 ti123 := ⟨Try.underlying123, ⟨(.nilFunc), by kernel_rfl, rfl, rfl⟩, rfl, rfl, rfl, fun c h => (by first | (cases h; done) | (obtain rfl := Option.some.inj h; exact ⟨rfl, rfl, rfl⟩)), fun h => (by first | (cases h; done) | exact ⟨by kernel_rfl, by kernel_rfl, by kernel_rfl⟩)⟩
/-- func(impl.Leaf) (impl.minor, int64) -/
def ti124 : TInfo := ⟨(TypeDesc.func #[61] #[94, 2] false), false, 1, 8, [.raw .nilFunc], none, false, false⟩
theorem ti124_ok : TInfoOk Try.prog 124 ti124 := ⟨Try.underlying124, ⟨(.nilFunc), by kernel_rfl, rfl, rfl⟩, rfl, rfl, rfl, fun c h => (by first | (cases h; done) | (obtain rfl := Option.some.inj h; exact ⟨rfl, rfl, rfl⟩)), fun h => (by first | (cases h; done) | exact ⟨by kernel_rfl, by kernel_rfl, by kernel_rfl⟩)⟩
/-- func() ([]impl.Leaf, []impl.Leaf) -/
def ti126 : TInfo := ⟨(TypeDesc.func #[] #[57, 57] false), false, 1, 8, [.raw .nilFunc], none, false, false⟩
theorem ti126_ok : TInfoOk Try.prog 126 ti126 := ⟨Try.underlying126, ⟨(.nilFunc), by kernel_rfl, rfl, rfl⟩, rfl, rfl, rfl, fun c h => (by first | (cases h; done) | (obtain rfl := Option.some.inj h; exact ⟨rfl, rfl, rfl⟩)), fun h => (by first | (cases h; done) | exact ⟨by kernel_rfl, by kernel_rfl, by kernel_rfl⟩)⟩
/-- func([]impl.Leaf) ([]impl.Leaf, int64) -/
def ti127 : TInfo := ⟨(TypeDesc.func #[57] #[57, 2] false), false, 1, 8, [.raw .nilFunc], none, false, false⟩
theorem ti127_ok : TInfoOk Try.prog 127 ti127 := ⟨Try.underlying127, ⟨(.nilFunc), by kernel_rfl, rfl, rfl⟩, rfl, rfl, rfl, fun c h => (by first | (cases h; done) | (obtain rfl := Option.some.inj h; exact ⟨rfl, rfl, rfl⟩)), fun h => (by first | (cases h; done) | exact ⟨by kernel_rfl, by kernel_rfl, by kernel_rfl⟩)⟩
/-- func(int64) []impl.Angle -/
def ti128 : TInfo := ⟨(TypeDesc.func #[2] #[39] false), false, 1, 8, [.raw .nilFunc], none, false, false⟩
theorem ti128_ok : TInfoOk Try.prog 128 ti128 := ⟨Try.underlying128, ⟨(.nilFunc), by kernel_rfl, rfl, rfl⟩, rfl, rfl, rfl, fun c h => (by first | (cases h; done) | (obtain rfl := Option.some.inj h; exact ⟨rfl, rfl, rfl⟩)), fun h => (by first | (cases h; done) | exact ⟨by kernel_rfl, by kernel_rfl, by kernel_rfl⟩)⟩
/-- func([]impl.Angle, func(impl.Angle) bool) int -/
def ti129 : TInfo := ⟨(TypeDesc.func #[39, 43] #[3] false), false, 1, 8, [.raw .nilFunc], none, false, false⟩
theorem ti129_ok : TInfoOk Try.prog 129 ti129 := ⟨Try.underlying129, ⟨(.nilFunc), by kernel_rfl, rfl, rfl⟩, rfl, rfl, rfl, fun c h => (by first | (cases h; done) | (obtain rfl := Option.some.inj h; exact ⟨rfl, rfl, rfl⟩)), fun h => (by first | (cases h; done) | exact ⟨by kernel_rfl, by kernel_rfl, by kernel_rfl⟩)⟩
/-- func([]impl.RayPair, func(impl.RayPair) bool) bool -/
def ti130 : TInfo := ⟨(TypeDesc.func #[105, 132] #[4] false), false, 1, 8, [.raw .nilFunc], none, false, false⟩
theorem ti130_ok : TInfoOk Try.prog 130 ti130 := ⟨Try.underlying130, ⟨(.nilFunc), by kernel_rfl, rfl, rfl⟩, rfl, rfl, rfl, fun c h => (by first | (cases h; done) | (obtain rfl := Option.some.inj h; exact ⟨rfl, rfl, rfl⟩)), fun h => (by first | (cases h; done) | exact ⟨by kernel_rfl, by kernel_rfl, by kernel_rfl⟩)⟩
/-- func() impl.Leaf -/
def ti131 : TInfo := ⟨(TypeDesc.func #[] #[61] false), false, 1, 8, [.raw .nilFunc], none, false, false⟩
theorem ti131_ok : TInfoOk Try.prog 131 ti131 := ⟨Try.underlying131, ⟨(.nilFunc), by kernel_rfl, rfl, rfl⟩, rfl, rfl, rfl, fun c h => (by first | (cases h; done) | (obtain rfl := Option.some.inj h; exact ⟨rfl, rfl, rfl⟩)), fun h => (by first | (cases h; done) | exact ⟨by kernel_rfl, by kernel_rfl, by kernel_rfl⟩)⟩
/-- func(impl.RayPair) bool -/
def ti132 : TInfo := ⟨(TypeDesc.func #[28] #[4] false), false, 1, 8, [.raw .nilFunc], none, false, false⟩
theorem ti132_ok : TInfoOk Try.prog 132 ti132 := ⟨Try.underlying132, ⟨(.nilFunc), by kernel_rfl, rfl, rfl⟩, rfl, rfl, rfl, fun c h => (by first | (cases h; done) | (obtain rfl := Option.some.inj h; exact ⟨rfl, rfl, rfl⟩)), fun h => (by first | (cases h; done) | exact ⟨by kernel_rfl, by kernel_rfl, by kernel_rfl⟩)⟩
/-- func([]impl.Angle, int, int) []impl.Angle -/
def ti133 : TInfo := ⟨(TypeDesc.func #[39, 3, 3] #[39] false), false, 1, 8, [.raw .nilFunc], none, false, false⟩
theorem ti133_ok : TInfoOk Try.prog 133 ti133 := ⟨Try.underlying133, ⟨(.nilFunc), by kernel_rfl, rfl, rfl⟩, rfl, rfl, rfl, fun c h => (by first | (cases h; done) | (obtain rfl := Option.some.inj h; exact ⟨rfl, rfl, rfl⟩)), fun h => (by first | (cases h; done) | exact ⟨by kernel_rfl, by kernel_rfl, by kernel_rfl⟩)⟩
/-- func(impl.Angle, impl.Angle, impl.Angle) int64 -/
def ti134 : TInfo := ⟨(TypeDesc.func #[25, 25, 25] #[2] false), false, 1, 8, [.raw .nilFunc], none, false, false⟩
theorem ti134_ok : TInfoOk Try.prog 134 ti134 := ⟨Try.underlying134, ⟨(.nilFunc), by kernel_rfl, rfl, rfl⟩, rfl, rfl, rfl, fun c h => (by first | (cases h; done) | (obtain rfl := Option.some.inj h; exact ⟨rfl, rfl, rfl⟩)), fun h => (by first | (cases h; done) | exact ⟨by kernel_rfl, by kernel_rfl, by kernel_rfl⟩)⟩
/-- func(int64, int64) int -/
def ti135 : TInfo := ⟨(TypeDesc.func #[2, 2] #[3] false), false, 1, 8, [.raw .nilFunc], none, false, false⟩
theorem ti135_ok : TInfoOk Try.prog 135 ti135 := ⟨Try.underlying135, ⟨(.nilFunc), by kernel_rfl, rfl, rfl⟩, rfl, rfl, rfl, fun c h => (by first | (cases h; done) | (obtain rfl := Option.some.inj h; exact ⟨rfl, rfl, rfl⟩)), fun h => (by first | (cases h; done) | exact ⟨by kernel_rfl, by kernel_rfl, by kernel_rfl⟩)⟩
/-- func([]impl.RayPair, int64) []impl.RayPair -/
def ti136 : TInfo := ⟨(TypeDesc.func #[105, 2] #[105] false), false, 1, 8, [.raw .nilFunc], none, false, false⟩
theorem ti136_ok : TInfoOk Try.prog 136 ti136 := ⟨Try.underlying136, ⟨(.nilFunc), by kernel_rfl, rfl, rfl⟩, rfl, rfl, rfl, fun c h => (by first | (cases h; done) | (obtain rfl := Option.some.inj h; exact ⟨rfl, rfl, rfl⟩)), fun h => (by first | (cases h; done) | exact ⟨by kernel_rfl, by kernel_rfl, by kernel_rfl⟩)⟩
/-- func(impl.Angle, impl.Angle, impl.Angle) bool -/
def ti137 : TInfo := ⟨(TypeDesc.func #[25, 25, 25] #[4] false), false, 1, 8, [.raw .nilFunc], none, false, false⟩
theorem ti137_ok : TInfoOk Try.prog 137 ti137 := ⟨Try.underlying137, ⟨(.nilFunc), by kernel_rfl, rfl, rfl⟩, rfl, rfl, rfl, fun c h => (by first | (cases h; done) | (obtain rfl := Option.some.inj h; exact ⟨rfl, rfl, rfl⟩)), fun h => (by first | (cases h; done) | exact ⟨by kernel_rfl, by kernel_rfl, by kernel_rfl⟩)⟩
/-- func([]impl.Angle, impl.Angle) int -/
def ti138 : TInfo := ⟨(TypeDesc.func #[39, 25] #[3] false), false, 1, 8, [.raw .nilFunc], none, false, false⟩
theorem ti138_ok : TInfoOk Try.prog 138 ti138 := ⟨Try.underlying138, ⟨(.nilFunc), by kernel_rfl, rfl, rfl⟩, rfl, rfl, rfl, fun c h => (by first | (cases h; done) | (obtain rfl := Option.some.inj h; exact ⟨rfl, rfl, rfl⟩)), fun h => (by first | (cases h; done) | exact ⟨by kernel_rfl, by kernel_rfl, by kernel_rfl⟩)⟩
/-- func(iter.Seq[loop.example/g01234/impl.Angle]) []impl.Angle -/
def ti139 : TInfo := ⟨(TypeDesc.func #[114] #[39] false), false, 1, 8, [.raw .nilFunc], none, false, false⟩
theorem ti139_ok : TInfoOk Try.prog 139 ti139 := ⟨Try.underlying139, ⟨(.nilFunc), by kernel_rfl, rfl, rfl⟩, rfl, rfl, rfl, fun c h => (by first | (cases h; done) | (obtain rfl := Option.some.inj h; exact ⟨rfl, rfl, rfl⟩)), fun h => (by first | (cases h; done) | exact ⟨by kernel_rfl, by kernel_rfl, by kernel_rfl⟩)⟩
/-- func([]impl.Angle, func(impl.Angle, impl.Angle) int) -/
def ti140 : TInfo := ⟨(TypeDesc.func #[39, 116] #[] false), false, 1, 8, [.raw .nilFunc], none, false, false⟩
theorem ti140_ok : TInfoOk Try.prog 140 ti140 := ⟨Try.underlying140, ⟨(.nilFunc), by kernel_rfl, rfl, rfl⟩, rfl, rfl, rfl, fun c h => (by first | (cases h; done) | (obtain rfl := Option.some.inj h; exact ⟨rfl, rfl, rfl⟩)), fun h => (by first | (cases h; done) | exact ⟨by kernel_rfl, by kernel_rfl, by kernel_rfl⟩)⟩
/-- func(impl.Leaf) (impl.Angle, impl.Angle) -/
def ti141 : TInfo := ⟨(TypeDesc.func #[61] #[25, 25] false), false, 1, 8, [.raw .nilFunc], none, false, false⟩
theorem ti141_ok : TInfoOk Try.prog 141 ti141 := ⟨Try.underlying141, ⟨(.nilFunc), by kernel_rfl, rfl, rfl⟩, rfl, rfl, rfl, fun c h => (by first | (cases h; done) | (obtain rfl := Option.some.inj h; exact ⟨rfl, rfl, rfl⟩)), fun h => (by first | (cases h; done) | exact ⟨by kernel_rfl, by kernel_rfl, by kernel_rfl⟩)⟩
/-- func([]impl.Leaf, func(impl.Leaf) bool) bool -/
def ti142 : TInfo := ⟨(TypeDesc.func #[57, 89] #[4] false), false, 1, 8, [.raw .nilFunc], none, false, false⟩
theorem ti142_ok : TInfoOk Try.prog 142 ti142 := ⟨Try.underlying142, ⟨(.nilFunc), by kernel_rfl, rfl, rfl⟩, rfl, rfl, rfl, fun c h => (by first | (cases h; done) | (obtain rfl := Option.some.inj h; exact ⟨rfl, rfl, rfl⟩)), fun h => (by first | (cases h; done) | exact ⟨by kernel_rfl, by kernel_rfl, by kernel_rfl⟩)⟩
/-- func() bool -/
def ti143 : TInfo := ⟨(TypeDesc.func #[] #[4] false), false, 1, 8, [.raw .nilFunc], none, false, false⟩
theorem ti143_ok : TInfoOk Try.prog 143 ti143 := ⟨Try.underlying143, ⟨(.nilFunc), by kernel_rfl, rfl, rfl⟩, rfl, rfl, rfl, fun c h => (by first | (cases h; done) | (obtain rfl := Option.some.inj h; exact ⟨rfl, rfl, rfl⟩)), fun h => (by first | (cases h; done) | exact ⟨by kernel_rfl, by kernel_rfl, by kernel_rfl⟩)⟩
/-- func() ([]impl.Leaf, bool) -/
def ti144 : TInfo := ⟨(TypeDesc.func #[] #[57, 4] false), false, 1, 8, [.raw .nilFunc], none, false, false⟩
theorem ti144_ok : TInfoOk Try.prog 144 ti144 := ⟨Try.underlying144, ⟨(.nilFunc), by kernel_rfl, rfl, rfl⟩, rfl, rfl, rfl, fun c h => (by first | (cases h; done) | (obtain rfl := Option.some.inj h; exact ⟨rfl, rfl, rfl⟩)), fun h => (by first | (cases h; done) | exact ⟨by kernel_rfl, by kernel_rfl, by kernel_rfl⟩)⟩
/-- func() ([]impl.Leaf, int64) -/
def ti145 : TInfo := ⟨(TypeDesc.func #[] #[57, 2] false), false, 1, 8, [.raw .nilFunc], none, false, false⟩
theorem ti145_ok : TInfoOk Try.prog 145 ti145 := ⟨Try.underlying145, ⟨(.nilFunc), by kernel_rfl, rfl, rfl⟩, rfl, rfl, rfl, fun c h => (by first | (cases h; done) | (obtain rfl := Option.some.inj h; exact ⟨rfl, rfl, rfl⟩)), fun h => (by first | (cases h; done) | exact ⟨by kernel_rfl, by kernel_rfl, by kernel_rfl⟩)⟩
/-- func([]impl.Leaf) (int64, int64) -/
def ti146 : TInfo := ⟨(TypeDesc.func #[57] #[2, 2] false), false, 1, 8, [.raw .nilFunc], none, false, false⟩
theorem ti146_ok : TInfoOk Try.prog 146 ti146 := ⟨Try.underlying146, ⟨(.nilFunc), by kernel_rfl, rfl, rfl⟩, rfl, rfl, rfl, fun c h => (by first | (cases h; done) | (obtain rfl := Option.some.inj h; exact ⟨rfl, rfl, rfl⟩)), fun h => (by first | (cases h; done) | exact ⟨by kernel_rfl, by kernel_rfl, by kernel_rfl⟩)⟩
/-- func(uint64, uint64) (uint64, uint64) -/
def ti148 : TInfo := ⟨(TypeDesc.func #[99, 99] #[99, 99] false), false, 1, 8, [.raw .nilFunc], none, false, false⟩
theorem ti148_ok : TInfoOk Try.prog 148 ti148 := ⟨Try.underlying148, ⟨(.nilFunc), by kernel_rfl, rfl, rfl⟩, rfl, rfl, rfl, fun c h => (by first | (cases h; done) | (obtain rfl := Option.some.inj h; exact ⟨rfl, rfl, rfl⟩)), fun h => (by first | (cases h; done) | exact ⟨by kernel_rfl, by kernel_rfl, by kernel_rfl⟩)⟩
/-- func(impl.Angle) int64 -/
def ti149 : TInfo := ⟨(TypeDesc.func #[25] #[2] false), false, 1, 8, [.raw .nilFunc], none, false, false⟩
theorem ti149_ok : TInfoOk Try.prog 149 ti149 := ⟨Try.underlying149, ⟨(.nilFunc), by kernel_rfl, rfl, rfl⟩, rfl, rfl, rfl, fun c h => (by first | (cases h; done) | (obtain rfl := Option.some.inj h; exact ⟨rfl, rfl, rfl⟩)), fun h => (by first | (cases h; done) | exact ⟨by kernel_rfl, by kernel_rfl, by kernel_rfl⟩)⟩
/-- func(int64) bool -/
def ti150 : TInfo := ⟨(TypeDesc.func #[2] #[4] false), false, 1, 8, [.raw .nilFunc], none, false, false⟩
theorem ti150_ok : TInfoOk Try.prog 150 ti150 := ⟨Try.underlying150, ⟨(.nilFunc), by kernel_rfl, rfl, rfl⟩, rfl, rfl, rfl, fun c h => (by first | (cases h; done) | (obtain rfl := Option.some.inj h; exact ⟨rfl, rfl, rfl⟩)), fun h => (by first | (cases h; done) | exact ⟨by kernel_rfl, by kernel_rfl, by kernel_rfl⟩)⟩
/-- []bool -/
def ti151 : TInfo := ⟨(TypeDesc.slice 4), false, 1, 24, [.raw (.slice none 0 0)], none, false, false⟩
theorem ti151_ok : TInfoOk Try.prog 151 ti151 := ⟨Try.underlying151, ⟨((.slice none 0 0)), by kernel_rfl, rfl, rfl⟩, rfl, rfl, rfl, fun c h => (by first | (cases h; done) | (obtain rfl := Option.some.inj h; exact ⟨rfl, rfl, rfl⟩)), fun h => (by first | (cases h; done) | exact ⟨by kernel_rfl, by kernel_rfl, by kernel_rfl⟩)⟩
/-- func(impl.RayPair, []impl.RayPair) bool -/
def ti152 : TInfo := ⟨(TypeDesc.func #[28, 105] #[4] false), false, 1, 8, [.raw .nilFunc], none, false, false⟩
theorem ti152_ok : TInfoOk Try.prog 152 ti152 := ⟨Try.underlying152, ⟨(.nilFunc), by kernel_rfl, rfl, rfl⟩, rfl, rfl, rfl, fun c h => (by first | (cases h; done) | (obtain rfl := Option.some.inj h; exact ⟨rfl, rfl, rfl⟩)), fun h => (by first | (cases h; done) | exact ⟨by kernel_rfl, by kernel_rfl, by kernel_rfl⟩)⟩
/-- func([]impl.Angle, iter.Seq[loop.example/g01234/impl.Angle]) []impl.Angle -/
def ti153 : TInfo := ⟨(TypeDesc.func #[39, 114] #[39] false), false, 1, 8, [.raw .nilFunc], none, false, false⟩
theorem ti153_ok : TInfoOk Try.prog 153 ti153 := ⟨Try.underlying153, ⟨(.nilFunc), by kernel_rfl, rfl, rfl⟩, rfl, rfl, rfl, fun c h => (by first | (cases h; done) | (obtain rfl := Option.some.inj h; exact ⟨rfl, rfl, rfl⟩)), fun h => (by first | (cases h; done) | exact ⟨by kernel_rfl, by kernel_rfl, by kernel_rfl⟩)⟩
/-- func([]impl.Angle, int, int, int, func(impl.Angle, impl.Angle) int) -/
def ti154 : TInfo := ⟨(TypeDesc.func #[39, 3, 3, 3, 116] #[] false), false, 1, 8, [.raw .nilFunc], none, false, false⟩
theorem ti154_ok : TInfoOk Try.prog 154 ti154 := ⟨Try.underlying154, ⟨(.nilFunc), by kernel_rfl, rfl, rfl⟩, rfl, rfl, rfl, fun c h => (by first | (cases h; done) | (obtain rfl := Option.some.inj h; exact ⟨rfl, rfl, rfl⟩)), fun h => (by first | (cases h; done) | exact ⟨by kernel_rfl, by kernel_rfl, by kernel_rfl⟩)⟩
/-- func(uint) int -/
def ti155 : TInfo := ⟨(TypeDesc.func #[102] #[3] false), false, 1, 8, [.raw .nilFunc], none, false, false⟩
theorem ti155_ok : TInfoOk Try.prog 155 ti155 := ⟨Try.underlying155, ⟨(.nilFunc), by kernel_rfl, rfl, rfl⟩, rfl, rfl, rfl, fun c h => (by first | (cases h; done) | (obtain rfl := Option.some.inj h; exact ⟨rfl, rfl, rfl⟩)), fun h => (by first | (cases h; done) | exact ⟨by kernel_rfl, by kernel_rfl, by kernel_rfl⟩)⟩
/-- func(impl.Leaf) impl.Leaf -/
def ti156 : TInfo := ⟨(TypeDesc.func #[61] #[61] false), false, 1, 8, [.raw .nilFunc], none, false, false⟩
theorem ti156_ok : TInfoOk Try.prog 156 ti156 := ⟨Try.underlying156, ⟨(.nilFunc), by kernel_rfl, rfl, rfl⟩, rfl, rfl, rfl, fun c h => (by first | (cases h; done) | (obtain rfl := Option.some.inj h; exact ⟨rfl, rfl, rfl⟩)), fun h => (by first | (cases h; done) | exact ⟨by kernel_rfl, by kernel_rfl, by kernel_rfl⟩)⟩
/-- func([]impl.Leaf, impl.Leaf) bool -/
def ti157 : TInfo := ⟨(TypeDesc.func #[57, 61] #[4] false), false, 1, 8, [.raw .nilFunc], none, false, false⟩
theorem ti157_ok : TInfoOk Try.prog 157 ti157 := ⟨Try.underlying157, ⟨(.nilFunc), by kernel_rfl, rfl, rfl⟩, rfl, rfl, rfl, fun c h => (by first | (cases h; done) | (obtain rfl := Option.some.inj h; exact ⟨rfl, rfl, rfl⟩)), fun h => (by first | (cases h; done) | exact ⟨by kernel_rfl, by kernel_rfl, by kernel_rfl⟩)⟩
/-- func([]impl.Leaf, func(impl.Leaf) bool) int -/
def ti158 : TInfo := ⟨(TypeDesc.func #[57, 89] #[3] false), false, 1, 8, [.raw .nilFunc], none, false, false⟩
theorem ti158_ok : TInfoOk Try.prog 158 ti158 := ⟨Try.underlying158, ⟨(.nilFunc), by kernel_rfl, rfl, rfl⟩, rfl, rfl, rfl, fun c h => (by first | (cases h; done) | (obtain rfl := Option.some.inj h; exact ⟨rfl, rfl, rfl⟩)), fun h => (by first | (cases h; done) | exact ⟨by kernel_rfl, by kernel_rfl, by kernel_rfl⟩)⟩
/-- func(impl.Leaf) int -/
def ti159 : TInfo := ⟨(TypeDesc.func #[61] #[3] false), false, 1, 8, [.raw .nilFunc], none, false, false⟩
theorem ti159_ok : TInfoOk Try.prog 159 ti159 := ⟨Try.underlying159, ⟨(.nilFunc), by kernel_rfl, rfl, rfl⟩, rfl, rfl, rfl, fun c h => (by first | (cases h; done) | (obtain rfl := Option.some.inj h; exact ⟨rfl, rfl, rfl⟩)), fun h => (by first | (cases h; done) | exact ⟨by kernel_rfl, by kernel_rfl, by kernel_rfl⟩)⟩
/-- func([]impl.RayPair, func(impl.RayPair) bool) int -/
def ti160 : TInfo := ⟨(TypeDesc.func #[105, 132] #[3] false), false, 1, 8, [.raw .nilFunc], none, false, false⟩
theorem ti160_ok : TInfoOk Try.prog 160 ti160 := ⟨Try.underlying160, ⟨(.nilFunc), by kernel_rfl, rfl, rfl⟩, rfl, rfl, rfl, fun c h => (by first | (cases h; done) | (obtain rfl := Option.some.inj h; exact ⟨rfl, rfl, rfl⟩)), fun h => (by first | (cases h; done) | exact ⟨by kernel_rfl, by kernel_rfl, by kernel_rfl⟩)⟩
/-- func(impl.RayPair, impl.RayPair) bool -/
def ti161 : TInfo := ⟨(TypeDesc.func #[28, 28] #[4] false), false, 1, 8, [.raw .nilFunc], none, false, false⟩
theorem ti161_ok : TInfoOk Try.prog 161 ti161 := ⟨Try.underlying161, ⟨(.nilFunc), by kernel_rfl, rfl, rfl⟩, rfl, rfl, rfl, fun c h => (by first | (cases h; done) | (obtain rfl := Option.some.inj h; exact ⟨rfl, rfl, rfl⟩)), fun h => (by first | (cases h; done) | exact ⟨by kernel_rfl, by kernel_rfl, by kernel_rfl⟩)⟩
/-- func([]impl.Angle, int, int, func(impl.Angle, impl.Angle) int) -/
def ti162 : TInfo := ⟨(TypeDesc.func #[39, 3, 3, 116] #[] false), false, 1, 8, [.raw .nilFunc], none, false, false⟩
theorem ti162_ok : TInfoOk Try.prog 162 ti162 := ⟨Try.underlying162, ⟨(.nilFunc), by kernel_rfl, rfl, rfl⟩, rfl, rfl, rfl, fun c h => (by first | (cases h; done) | (obtain rfl := Option.some.inj h; exact ⟨rfl, rfl, rfl⟩)), fun h => (by first | (cases h; done) | exact ⟨by kernel_rfl, by kernel_rfl, by kernel_rfl⟩)⟩
/-- slices.sortedHint -/
def ti163 : TInfo := ⟨(TypeDesc.int IntKind.i64), false, 1, 8, [.int .i64 0], (some (.int .i64)), false, false⟩
theorem ti163_ok : TInfoOk Try.prog 163 ti163 := ⟨Try.underlying163, ⟨(.int .i64 0), by kernel_rfl, rfl, rfl⟩, rfl, rfl, rfl, fun c h => (by first | (cases h; done) | (obtain rfl := Option.some.inj h; exact ⟨rfl, rfl, rfl⟩)), fun h => (by first | (cases h; done) | exact ⟨by kernel_rfl, by kernel_rfl, by kernel_rfl⟩)⟩
/-- func([]impl.Angle, int, int, func(impl.Angle, impl.Angle) int) (int, slices.sortedHint) -/
def ti165 : TInfo := ⟨(TypeDesc.func #[39, 3, 3, 116] #[3, 163] false), false, 1, 8, [.raw .nilFunc], none, false, false⟩
theorem ti165_ok : TInfoOk Try.prog 165 ti165 := ⟨Try.underlying165, ⟨(.nilFunc), by kernel_rfl, rfl, rfl⟩, rfl, rfl, rfl, fun c h => (by first | (cases h; done) | (obtain rfl := Option.some.inj h; exact ⟨rfl, rfl, rfl⟩)), fun h => (by first | (cases h; done) | exact ⟨by kernel_rfl, by kernel_rfl, by kernel_rfl⟩)⟩
/-- func([]impl.Angle, int, int, func(impl.Angle, impl.Angle) int) bool -/
def ti166 : TInfo := ⟨(TypeDesc.func #[39, 3, 3, 116] #[4] false), false, 1, 8, [.raw .nilFunc], none, false, false⟩
theorem ti166_ok : TInfoOk Try.prog 166 ti166 := ⟨Try.underlying166, ⟨(.nilFunc), by kernel_rfl, rfl, rfl⟩, rfl, rfl, rfl, fun c h => (by first | (cases h; done) | (obtain rfl := Option.some.inj h; exact ⟨rfl, rfl, rfl⟩)), fun h => (by first | (cases h; done) | exact ⟨by kernel_rfl, by kernel_rfl, by kernel_rfl⟩)⟩
/-- func([]impl.Angle, int, int, int, func(impl.Angle, impl.Angle) int) int -/
def ti167 : TInfo := ⟨(TypeDesc.func #[39, 3, 3, 3, 116] #[3] false), false, 1, 8, [.raw .nilFunc], none, false, false⟩
theorem ti167_ok : TInfoOk Try.prog 167 ti167 := ⟨Try.underlying167, ⟨(.nilFunc), by kernel_rfl, rfl, rfl⟩, rfl, rfl, rfl, fun c h => (by first | (cases h; done) | (obtain rfl := Option.some.inj h; exact ⟨rfl, rfl, rfl⟩)), fun h => (by first | (cases h; done) | exact ⟨by kernel_rfl, by kernel_rfl, by kernel_rfl⟩)⟩
/-- func([]impl.Angle, int, int, int, func(impl.Angle, impl.Angle) int) (int, bool) -/
def ti169 : TInfo := ⟨(TypeDesc.func #[39, 3, 3, 3, 116] #[3, 4] false), false, 1, 8, [.raw .nilFunc], none, false, false⟩
theorem ti169_ok : TInfoOk Try.prog 169 ti169 := ⟨Try.underlying169, ⟨(.nilFunc), by kernel_rfl, rfl, rfl⟩, rfl, rfl, rfl, fun c h => (by first | (cases h; done) | (obtain rfl := Option.some.inj h; exact ⟨rfl, rfl, rfl⟩)), fun h => (by first | (cases h; done) | exact ⟨by kernel_rfl, by kernel_rfl, by kernel_rfl⟩)⟩
/-- func(uint32) int -/
def ti170 : TInfo := ⟨(TypeDesc.func #[171] #[3] false), false, 1, 8, [.raw .nilFunc], none, false, false⟩
theorem ti170_ok : TInfoOk Try.prog 170 ti170 := ⟨Try.underlying170, ⟨(.nilFunc), by kernel_rfl, rfl, rfl⟩, rfl, rfl, rfl, fun c h => (by first | (cases h; done) | (obtain rfl := Option.some.inj h; exact ⟨rfl, rfl, rfl⟩)), fun h => (by first | (cases h; done) | exact ⟨by kernel_rfl, by kernel_rfl, by kernel_rfl⟩)⟩
/-- uint32 -/
def ti171 : TInfo := ⟨(TypeDesc.int IntKind.u32), false, 1, 4, [.int .u32 0], (some (.int .u32)), false, false⟩
theorem ti171_ok : TInfoOk Try.prog 171 ti171 := ⟨Try.underlying171, ⟨(.int .u32 0), by kernel_rfl, rfl, rfl⟩, rfl, rfl, rfl, fun c h => (by first | (cases h; done) | (obtain rfl := Option.some.inj h; exact ⟨rfl, rfl, rfl⟩)), fun h => (by first | (cases h; done) | exact ⟨by kernel_rfl, by kernel_rfl, by kernel_rfl⟩)⟩
/-- func(uint64) int -/
def ti172 : TInfo := ⟨(TypeDesc.func #[99] #[3] false), false, 1, 8, [.raw .nilFunc], none, false, false⟩
theorem ti172_ok : TInfoOk Try.prog 172 ti172 := ⟨Try.underlying172, ⟨(.nilFunc), by kernel_rfl, rfl, rfl⟩, rfl, rfl, rfl, fun c h => (by first | (cases h; done) | (obtain rfl := Option.some.inj h; exact ⟨rfl, rfl, rfl⟩)), fun h => (by first | (cases h; done) | exact ⟨by kernel_rfl, by kernel_rfl, by kernel_rfl⟩)⟩
/-- func([]impl.Leaf, impl.Leaf) int -/
def ti173 : TInfo := ⟨(TypeDesc.func #[57, 61] #[3] false), false, 1, 8, [.raw .nilFunc], none, false, false⟩
theorem ti173_ok : TInfoOk Try.prog 173 ti173 := ⟨Try.underlying173, ⟨(.nilFunc), by kernel_rfl, rfl, rfl⟩, rfl, rfl, rfl, fun c h => (by first | (cases h; done) | (obtain rfl := Option.some.inj h; exact ⟨rfl, rfl, rfl⟩)), fun h => (by first | (cases h; done) | exact ⟨by kernel_rfl, by kernel_rfl, by kernel_rfl⟩)⟩
/-- func(...int) int -/
def ti174 : TInfo := ⟨(TypeDesc.func #[181] #[3] true), false, 1, 8, [.raw .nilFunc], none, false, false⟩
theorem ti174_ok : TInfoOk Try.prog 174 ti174 := ⟨Try.underlying174, ⟨(.nilFunc), by kernel_rfl, rfl, rfl⟩, rfl, rfl, rfl, fun c h => (by first | (cases h; done) | (obtain rfl := Option.some.inj h; exact ⟨rfl, rfl, rfl⟩)), fun h => (by first | (cases h; done) | exact ⟨by kernel_rfl, by kernel_rfl, by kernel_rfl⟩)⟩
/-- slices.xorshift -/
def ti175 : TInfo := ⟨(TypeDesc.int IntKind.u64), false, 1, 8, [.int .u64 0], (some (.int .u64)), false, false⟩
theorem ti175_ok : TInfoOk Try.prog 175 ti175 := ⟨Try.underlying175, ⟨(.int .u64 0), by kernel_rfl, rfl, rfl⟩, rfl, rfl, rfl, fun c h => (by first | (cases h; done) | (obtain rfl := Option.some.inj h; exact ⟨rfl, rfl, rfl⟩)), fun h => (by first | (cases h; done) | exact ⟨by kernel_rfl, by kernel_rfl, by kernel_rfl⟩)⟩
/-- func(int) uint -/
def ti176 : TInfo := ⟨(TypeDesc.func #[3] #[102] false), false, 1, 8, [.raw .nilFunc], none, false, false⟩
theorem ti176_ok : TInfoOk Try.prog 176 ti176 := ⟨Try.underlying176, ⟨(.nilFunc), by kernel_rfl, rfl, rfl⟩, rfl, rfl, rfl, fun c h => (by first | (cases h; done) | (obtain rfl := Option.some.inj h; exact ⟨rfl, rfl, rfl⟩)), fun h => (by first | (cases h; done) | exact ⟨by kernel_rfl, by kernel_rfl, by kernel_rfl⟩)⟩
/-- func() uint64 -/
def ti177 : TInfo := ⟨(TypeDesc.func #[] #[99] false), false, 1, 8, [.raw .nilFunc], none, false, false⟩
theorem ti177_ok : TInfoOk Try.prog 177 ti177 := ⟨Try.underlying177, ⟨(.nilFunc), by kernel_rfl, rfl, rfl⟩, rfl, rfl, rfl, fun c h => (by first | (cases h; done) | (obtain rfl := Option.some.inj h; exact ⟨rfl, rfl, rfl⟩)), fun h => (by first | (cases h; done) | exact ⟨by kernel_rfl, by kernel_rfl, by kernel_rfl⟩)⟩
/-- func([]impl.Angle, int, *int, func(impl.Angle, impl.Angle) int) int -/
def ti178 : TInfo := ⟨(TypeDesc.func #[39, 3, 179, 116] #[3] false), false, 1, 8, [.raw .nilFunc], none, false, false⟩
theorem ti178_ok : TInfoOk Try.prog 178 ti178 := ⟨Try.underlying178, ⟨(.nilFunc), by kernel_rfl, rfl, rfl⟩, rfl, rfl, rfl, fun c h => (by first | (cases h; done) | (obtain rfl := Option.some.inj h; exact ⟨rfl, rfl, rfl⟩)), fun h => (by first | (cases h; done) | exact ⟨by kernel_rfl, by kernel_rfl, by kernel_rfl⟩)⟩
/-- *int -/
def ti179 : TInfo := ⟨(TypeDesc.pointer 3), false, 1, 8, [.raw (.pointer none)], none, false, false⟩
theorem ti179_ok : TInfoOk Try.prog 179 ti179 := ⟨Try.underlying179, ⟨((.pointer none)), by kernel_rfl, rfl, rfl⟩, rfl, rfl, rfl, fun c h => (by first | (cases h; done) | (obtain rfl := Option.some.inj h; exact ⟨rfl, rfl, rfl⟩)), fun h => (by first | (cases h; done) | exact ⟨by kernel_rfl, by kernel_rfl, by kernel_rfl⟩)⟩
/-- func([]impl.Angle, int, int, int, *int, func(impl.Angle, impl.Angle) int) int -/
def ti180 : TInfo := ⟨(TypeDesc.func #[39, 3, 3, 3, 179, 116] #[3] false), false, 1, 8, [.raw .nilFunc], none, false, false⟩
theorem ti180_ok : TInfoOk Try.prog 180 ti180 := ⟨Try.underlying180, ⟨(.nilFunc), by kernel_rfl, rfl, rfl⟩, rfl, rfl, rfl, fun c h => (by first | (cases h; done) | (obtain rfl := Option.some.inj h; exact ⟨rfl, rfl, rfl⟩)), fun h => (by first | (cases h; done) | exact ⟨by kernel_rfl, by kernel_rfl, by kernel_rfl⟩)⟩
/-- []int -/
def ti181 : TInfo := ⟨(TypeDesc.slice 3), false, 1, 24, [.raw (.slice none 0 0)], none, false, false⟩
theorem ti181_ok : TInfoOk Try.prog 181 ti181 := ⟨Try.underlying181, ⟨((.slice none 0 0)), by kernel_rfl, rfl, rfl⟩, rfl, rfl, rfl, fun c h => (by first | (cases h; done) | (obtain rfl := Option.some.inj h; exact ⟨rfl, rfl, rfl⟩)), fun h => (by first | (cases h; done) | exact ⟨by kernel_rfl, by kernel_rfl, by kernel_rfl⟩)⟩
/-- *slices.xorshift -/
def ti182 : TInfo := ⟨(TypeDesc.pointer 175), false, 1, 8, [.raw (.pointer none)], none, false, false⟩
theorem ti182_ok : TInfoOk Try.prog 182 ti182 := ⟨Try.underlying182, ⟨((.pointer none)), by kernel_rfl, rfl, rfl⟩, rfl, rfl, rfl, fun c h => (by first | (cases h; done) | (obtain rfl := Option.some.inj h; exact ⟨rfl, rfl, rfl⟩)), fun h => (by first | (cases h; done) | exact ⟨by kernel_rfl, by kernel_rfl, by kernel_rfl⟩)⟩
/-- func([]impl.Angle, int, int, *int, func(impl.Angle, impl.Angle) int) (int, int) -/
def ti184 : TInfo := ⟨(TypeDesc.func #[39, 3, 3, 179, 116] #[3, 3] false), false, 1, 8, [.raw .nilFunc], none, false, false⟩
theorem ti184_ok : TInfoOk Try.prog 184 ti184 := ⟨Try.underlying184, ⟨(.nilFunc), by kernel_rfl, rfl, rfl⟩, rfl, rfl, rfl, fun c h => (by first | (cases h; done) | (obtain rfl := Option.some.inj h; exact ⟨rfl, rfl, rfl⟩)), fun h => (by first | (cases h; done) | exact ⟨by kernel_rfl, by kernel_rfl, by kernel_rfl⟩)⟩
/-- func() string -/
def ti185 : TInfo := ⟨(TypeDesc.func #[] #[9] false), false, 1, 8, [.raw .nilFunc], none, false, false⟩
theorem ti185_ok : TInfoOk Try.prog 185 ti185 := ⟨Try.underlying185, ⟨(.nilFunc), by kernel_rfl, rfl, rfl⟩, rfl, rfl, rfl, fun c h => (by first | (cases h; done) | (obtain rfl := Option.some.inj h; exact ⟨rfl, rfl, rfl⟩)), fun h => (by first | (cases h; done) | exact ⟨by kernel_rfl, by kernel_rfl, by kernel_rfl⟩)⟩
/-- func() int -/
def ti191 : TInfo := ⟨(TypeDesc.func #[] #[3] false), false, 1, 8, [.raw .nilFunc], none, false, false⟩
theorem ti191_ok : TInfoOk Try.prog 191 ti191 := ⟨Try.underlying191, ⟨(.nilFunc), by kernel_rfl, rfl, rfl⟩, rfl, rfl, rfl, fun c h => (by first | (cases h; done) | (obtain rfl := Option.some.inj h; exact ⟨rfl, rfl, rfl⟩)), fun h => (by first | (cases h; done) | exact ⟨by kernel_rfl, by kernel_rfl, by kernel_rfl⟩)⟩
/-- *uint8 -/
def ti195 : TInfo := ⟨(TypeDesc.pointer 5), false, 1, 8, [.raw (.pointer none)], none, false, false⟩
theorem ti195_ok : TInfoOk Try.prog 195 ti195 := ⟨Try.underlying195, ⟨((.pointer none)), by kernel_rfl, rfl, rfl⟩, rfl, rfl, rfl, fun c h => (by first | (cases h; done) | (obtain rfl := Option.some.inj h; exact ⟨rfl, rfl, rfl⟩)), fun h => (by first | (cases h; done) | exact ⟨by kernel_rfl, by kernel_rfl, by kernel_rfl⟩)⟩
def TL : List (TypeId × TInfo) := [(1, ti1), (2, ti2), (3, ti3), (4, ti4), (5, ti5), (9, ti9), (21, ti21), (22, ti22), (23, ti23), (24, ti24), (25, ti25), (26, ti26), (27, ti27), (28, ti28), (30, ti30), (32, ti32), (34, ti34), (36, ti36), (37, ti37), (38, ti38), (39, ti39), (41, ti41), (42, ti42), (43, ti43), (44, ti44), (46, ti46), (47, ti47), (49, ti49), (50, ti50), (51, ti51), (52, ti52), (53, ti53), (54, ti54), (55, ti55), (56, ti56), (57, ti57), (59, ti59), (60, ti60), (61, ti61), (62, ti62), (63, ti63), (64, ti64), (65, ti65), (66, ti66), (67, ti67), (68, ti68), (69, ti69), (70, ti70), (72, ti72), (73, ti73), (74, ti74), (75, ti75), (77, ti77), (78, ti78), (79, ti79), (81, ti81), (83, ti83), (84, ti84), (85, ti85), (86, ti86), (87, ti87), (88, ti88), (89, ti89), (90, ti90), (91, ti91), (92, ti92), (93, ti93), (94, ti94), (96, ti96), (97, ti97), (98, ti98), (99, ti99), (100, ti100), (101, ti101), (102, ti102), (103, ti103), (104, ti104), (105, ti105), (106, ti106), (107, ti107), (108, ti108), (110, ti110), (111, ti111), (112, ti112), (113, ti113), (114, ti114), (115, ti115), (116, ti116), (118, ti118), (120, ti120), (121, ti121), (122, ti122), (123, ti123), (124, ti124), (126, ti126), (127, ti127), (128, ti128), (129, ti129), (130, ti130), (131, ti131), (132, ti132), (133, ti133), (134, ti134), (135, ti135), (136, ti136), (137, ti137), (138, ti138), (139, ti139), (140, ti140), (141, ti141), (142, ti142), (143, ti143), (144, ti144), (145, ti145), (146, ti146), (148, ti148), (149, ti149), (150, ti150), (151, ti151), (152, ti152), (153, ti153), (154, ti154), (155, ti155), (156, ti156), (157, ti157), (158, ti158), (159, ti159), (160, ti160), (161, ti161), (162, ti162), (163, ti163), (165, ti165), (166, ti166), (167, ti167), (169, ti169), (170, ti170), (171, ti171), (172, ti172), (173, ti173), (174, ti174), (175, ti175), (176, ti176), (177, ti177), (178, ti178), (179, ti179), (180, ti180), (181, ti181), (182, ti182), (184, ti184), (185, ti185), (191, ti191), (195, ti195)]
def T : TypeId → Option TInfo := lookT TL
theorem T_ok : TOk Try.prog T := TOk.list (by
  intro p hp
  simp only [TL, List.mem_cons, List.not_mem_nil, or_false] at hp
  rcases hp with rfl | rfl | rfl | rfl | rfl | rfl | rfl | rfl | rfl | rfl | rfl | rfl | rfl | rfl | rfl | rfl | rfl | rfl | rfl | rfl | rfl | rfl | rfl | rfl | rfl | rfl | rfl | rfl | rfl | rfl | rfl | rfl | rfl | rfl | rfl | rfl | rfl | rfl | rfl | rfl | rfl | rfl | rfl | rfl | rfl | rfl | rfl | rfl | rfl | rfl | rfl | rfl | rfl | rfl | rfl | rfl | rfl | rfl | rfl | rfl | rfl | rfl | rfl | rfl | rfl | rfl | rfl | rfl | rfl | rfl | rfl | rfl | rfl | rfl | rfl | rfl | rfl | rfl | rfl | rfl | rfl | rfl | rfl | rfl | rfl | rfl | rfl | rfl | rfl | rfl | rfl | rfl | rfl | rfl | rfl | rfl | rfl | rfl | rfl | rfl | rfl | rfl | rfl | rfl | rfl | rfl | rfl | rfl | rfl | rfl | rfl | rfl | rfl | rfl | rfl | rfl | rfl | rfl | rfl | rfl | rfl | rfl | rfl | rfl | rfl | rfl | rfl | rfl | rfl | rfl | rfl | rfl | rfl | rfl | rfl | rfl | rfl | rfl | rfl | rfl | rfl | rfl | rfl | rfl | rfl | rfl | rfl | rfl | rfl | rfl | rfl | rfl
  · exact ti1_ok
  · exact ti2_ok
  · exact ti3_ok
  · exact ti4_ok
  · exact ti5_ok
  · exact ti9_ok
  · exact ti21_ok
  · exact ti22_ok
  · exact ti23_ok
  · exact ti24_ok
  · exact ti25_ok
  · exact ti26_ok
  · exact ti27_ok
  · exact ti28_ok
  · exact ti30_ok
  · exact ti32_ok
  · exact ti34_ok
  · exact ti36_ok
  · exact ti37_ok
  · exact ti38_ok
  · exact ti39_ok
  · exact ti41_ok
  · exact ti42_ok
  · exact ti43_ok
  · exact ti44_ok
  · exact ti46_ok
  · exact ti47_ok
  · exact ti49_ok
  · exact ti50_ok
  · exact ti51_ok
  · exact ti52_ok
  · exact ti53_ok
  · exact ti54_ok
  · exact ti55_ok
  · exact ti56_ok
  · exact ti57_ok
  · exact ti59_ok
  · exact ti60_ok
  · exact ti61_ok
  · exact ti62_ok
  · exact ti63_ok
  · exact ti64_ok
  · exact ti65_ok
  · exact ti66_ok
  · exact ti67_ok
  · exact ti68_ok
  · exact ti69_ok
  · exact ti70_ok
  · exact ti72_ok
  · exact ti73_ok
  · exact ti74_ok
  · exact ti75_ok
  · exact ti77_ok
  · exact ti78_ok
  · exact ti79_ok
  · exact ti81_ok
  · exact ti83_ok
  · exact ti84_ok
  · exact ti85_ok
  · exact ti86_ok
  · exact ti87_ok
  · exact ti88_ok
  · exact ti89_ok
  · exact ti90_ok
  · exact ti91_ok
  · exact ti92_ok
  · exact ti93_ok
  · exact ti94_ok
  · exact ti96_ok
  · exact ti97_ok
  · exact ti98_ok
  · exact ti99_ok
  · exact ti100_ok
  · exact ti101_ok
  · exact ti102_ok
  · exact ti103_ok
  · exact ti104_ok
  · exact ti105_ok
  · exact ti106_ok
  · exact ti107_ok
  · exact ti108_ok
  · exact ti110_ok
  · exact ti111_ok
  · exact ti112_ok
  · exact ti113_ok
  · exact ti114_ok
  · exact ti115_ok
  · exact ti116_ok
  · exact ti118_ok
  · exact ti120_ok
  · exact ti121_ok
  · exact ti122_ok
  · exact ti123_ok
  · exact ti124_ok
  · exact ti126_ok
  · exact ti127_ok
  · exact ti128_ok
  · exact ti129_ok
  · exact ti130_ok
  · exact ti131_ok
  · exact ti132_ok
  · exact ti133_ok
  · exact ti134_ok
  · exact ti135_ok
  · exact ti136_ok
  · exact ti137_ok
  · exact ti138_ok
  · exact ti139_ok
  · exact ti140_ok
  · exact ti141_ok
  · exact ti142_ok
  · exact ti143_ok
  · exact ti144_ok
  · exact ti145_ok
  · exact ti146_ok
  · exact ti148_ok
  · exact ti149_ok
  · exact ti150_ok
  · exact ti151_ok
  · exact ti152_ok
  · exact ti153_ok
  · exact ti154_ok
  · exact ti155_ok
  · exact ti156_ok
  · exact ti157_ok
  · exact ti158_ok
  · exact ti159_ok
  · exact ti160_ok
  · exact ti161_ok
  · exact ti162_ok
  · exact ti163_ok
  · exact ti165_ok
  · exact ti166_ok
  · exact ti167_ok
  · exact ti169_ok
  · exact ti170_ok
  · exact ti171_ok
  · exact ti172_ok
  · exact ti173_ok
  · exact ti174_ok
  · exact ti175_ok
  · exact ti176_ok
  · exact ti177_ok
  · exact ti178_ok
  · exact ti179_ok
  · exact ti180_ok
  · exact ti181_ok
  · exact ti182_ok
  · exact ti184_ok
  · exact ti185_ok
  · exact ti191_ok
  · exact ti195_ok)
end Go.Proofs.Ytadlnnjgocknhab.Fw
