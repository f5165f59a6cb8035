/- What is known of the data types of this seat's program. Written by a program of this session (gen_types.py) out of Lean's own print of the program's types. -/
import Derived.Test.YtllagpbbbdekiaaGA
import Derived.Test.YtllagpbbbdekiaaProg
namespace Go.Proofs.Ytllagpbbbdekiaa.Fw
open Go
set_option maxRecDepth 100000

/-- func() -/
def ti1 : TInfo := ⟨(TypeDesc.func #[] #[] false), false, 1, 8, [.raw .nilFunc], none, false, false⟩
theorem ti1_ok : TInfoOk Try.prog 1 ti1 := ⟨Try.underlying1, ⟨(.nilFunc), by kernel_rfl, rfl, rfl⟩, rfl, rfl, rfl, fun c h => (by first | (cases h; done) | (obtain rfl := Option.some.inj h; exact ⟨rfl, rfl, rfl⟩)), fun h => (by first | (cases h; done) | exact ⟨by kernel_rfl, by kernel_rfl, by kernel_rfl⟩)⟩
/-- int64 -/
def ti2 : TInfo := ⟨(TypeDesc.int IntKind.i64), false, 1, 8, [.int .i64 0], (some (.int .i64)), false, false⟩
theorem ti2_ok : TInfoOk Try.prog 2 ti2 := ⟨Try.underlying2, ⟨(.int .i64 0), by kernel_rfl, rfl, rfl⟩, rfl, rfl, rfl, fun c h => (by first | (cases h; done) | (obtain rfl := Option.some.inj h; exact ⟨rfl, rfl, rfl⟩)), fun h => (by first | (cases h; done) | exact ⟨by kernel_rfl, by kernel_rfl, by kernel_rfl⟩)⟩
/-- int -/
def ti3 : TInfo := ⟨(TypeDesc.int IntKind.i64), false, 1, 8, [.int .i64 0], (some (.int .i64)), false, false⟩
theorem ti3_ok : TInfoOk Try.prog 3 ti3 := ⟨Try.underlying3, ⟨(.int .i64 0), by kernel_rfl, rfl, rfl⟩, rfl, rfl, rfl, fun c h => (by first | (cases h; done) | (obtain rfl := Option.some.inj h; exact ⟨rfl, rfl, rfl⟩)), fun h => (by first | (cases h; done) | exact ⟨by kernel_rfl, by kernel_rfl, by kernel_rfl⟩)⟩
/-- bool -/
def ti4 : TInfo := ⟨TypeDesc.bool, false, 1, 1, [.bool false], (some (.bool)), false, false⟩
theorem ti4_ok : TInfoOk Try.prog 4 ti4 := ⟨Try.underlying4, ⟨(.bool false), by kernel_rfl, rfl, rfl⟩, rfl, rfl, rfl, fun c h => (by first | (cases h; done) | (obtain rfl := Option.some.inj h; exact ⟨rfl, rfl, rfl⟩)), fun h => (by first | (cases h; done) | exact ⟨by kernel_rfl, by kernel_rfl, by kernel_rfl⟩)⟩
/-- uint8 -/
def ti5 : TInfo := ⟨(TypeDesc.int IntKind.u8), false, 1, 1, [.int .u8 0], (some (.int .u8)), false, false⟩
theorem ti5_ok : TInfoOk Try.prog 5 ti5 := ⟨Try.underlying5, ⟨(.int .u8 0), by kernel_rfl, rfl, rfl⟩, rfl, rfl, rfl, fun c h => (by first | (cases h; done) | (obtain rfl := Option.some.inj h; exact ⟨rfl, rfl, rfl⟩)), fun h => (by first | (cases h; done) | exact ⟨by kernel_rfl, by kernel_rfl, by kernel_rfl⟩)⟩
/-- string -/
def ti9 : TInfo := ⟨TypeDesc.string, false, 1, 16, [.str ByteArray.empty], (some (.str)), false, false⟩
theorem ti9_ok : TInfoOk Try.prog 9 ti9 := ⟨Try.underlying9, ⟨(.string ByteArray.empty), by kernel_rfl, rfl, rfl⟩, rfl, rfl, rfl, fun c h => (by first | (cases h; done) | (obtain rfl := Option.some.inj h; exact ⟨rfl, rfl, rfl⟩)), fun h => (by first | (cases h; done) | exact ⟨by kernel_rfl, by kernel_rfl, by kernel_rfl⟩)⟩
/-- int32 -/
def ti21 : TInfo := ⟨(TypeDesc.int IntKind.i32), false, 1, 4, [.int .i32 0], (some (.int .i32)), false, false⟩
theorem ti21_ok : TInfoOk Try.prog 21 ti21 := ⟨Try.underlying21, ⟨(.int .i32 0), by kernel_rfl, rfl, rfl⟩, rfl, rfl, rfl, fun c h => (by first | (cases h; done) | (obtain rfl := Option.some.inj h; exact ⟨rfl, rfl, rfl⟩)), fun h => (by first | (cases h; done) | exact ⟨by kernel_rfl, by kernel_rfl, by kernel_rfl⟩)⟩
/-- struct { Num int64; Den int64 } -/
def ti22 : TInfo := ⟨(TypeDesc.struct #[{ name := "Num", type := 2, offset := 0, embedded := false, tag := "", pkgPath := "", byteOffset := 0 }, { name := "Den", type := 2, offset := 1, embedded := false, tag := "", pkgPath := "", byteOffset := 8 }]), true, 2, 16, [.int .i64 0, .int .i64 0], (some (.pair (.int .i64) (.int .i64))), true, false⟩
theorem ti22_ok : TInfoOk Try.prog 22 ti22 := ⟨Try.underlying22, ⟨(.agg #[.int .i64 0, .int .i64 0]), by kernel_rfl, rfl, rfl⟩, rfl, rfl, rfl, fun c h => (by first | (cases h; done) | (obtain rfl := Option.some.inj h; exact ⟨rfl, rfl, rfl⟩)), fun h => (by first | (cases h; done) | exact ⟨by kernel_rfl, by kernel_rfl, by kernel_rfl⟩)⟩
/-- laws.Angle = loop.example/g01234/laws.Angle -/
def ti23 : TInfo := ⟨(TypeDesc.struct #[{ name := "Num", type := 2, offset := 0, embedded := false, tag := "", pkgPath := "", byteOffset := 0 }, { name := "Den", type := 2, offset := 1, embedded := false, tag := "", pkgPath := "", byteOffset := 8 }]), true, 2, 16, [.int .i64 0, .int .i64 0], (some (.pair (.int .i64) (.int .i64))), true, false⟩
theorem ti23_ok : TInfoOk Try.prog 23 ti23 := ⟨Try.underlying23, ⟨(.agg #[.int .i64 0, .int .i64 0]), by kernel_rfl, rfl, rfl⟩, rfl, rfl, rfl, fun c h => (by first | (cases h; done) | (obtain rfl := Option.some.inj h; exact ⟨rfl, rfl, rfl⟩)), fun h => (by first | (cases h; done) | exact ⟨by kernel_rfl, by kernel_rfl, by kernel_rfl⟩)⟩
/-- struct { First laws.Angle; Second laws.Angle } -/
def ti24 : TInfo := ⟨(TypeDesc.struct #[{ name := "First", type := 23, offset := 0, embedded := false, tag := "", pkgPath := "", byteOffset := 0 }, { name := "Second", type := 23, offset := 2, embedded := false, tag := "", pkgPath := "", byteOffset := 16 }]), true, 4, 32, [.int .i64 0, .int .i64 0, .int .i64 0, .int .i64 0], (some (.pair (.pair (.int .i64) (.int .i64)) (.pair (.int .i64) (.int .i64)))), true, false⟩
theorem ti24_ok : TInfoOk Try.prog 24 ti24 := ⟨Try.underlying24, ⟨(.agg #[.int .i64 0, .int .i64 0, .int .i64 0, .int .i64 0]), by kernel_rfl, rfl, rfl⟩, rfl, rfl, rfl, fun c h => (by first | (cases h; done) | (obtain rfl := Option.some.inj h; exact ⟨rfl, rfl, rfl⟩)), fun h => (by first | (cases h; done) | exact ⟨by kernel_rfl, by kernel_rfl, by kernel_rfl⟩)⟩
/-- laws.Leaf = loop.example/g01234/laws.Leaf -/
def ti25 : TInfo := ⟨(TypeDesc.struct #[{ name := "First", type := 23, offset := 0, embedded := false, tag := "", pkgPath := "", byteOffset := 0 }, { name := "Second", type := 23, offset := 2, embedded := false, tag := "", pkgPath := "", byteOffset := 16 }]), true, 4, 32, [.int .i64 0, .int .i64 0, .int .i64 0, .int .i64 0], (some (.pair (.pair (.int .i64) (.int .i64)) (.pair (.int .i64) (.int .i64)))), true, false⟩
theorem ti25_ok : TInfoOk Try.prog 25 ti25 := ⟨Try.underlying25, ⟨(.agg #[.int .i64 0, .int .i64 0, .int .i64 0, .int .i64 0]), by kernel_rfl, rfl, rfl⟩, rfl, rfl, rfl, fun c h => (by first | (cases h; done) | (obtain rfl := Option.some.inj h; exact ⟨rfl, rfl, rfl⟩)), fun h => (by first | (cases h; done) | exact ⟨by kernel_rfl, by kernel_rfl, by kernel_rfl⟩)⟩
/-- []impl.Leaf -/
def ti26 : TInfo := ⟨(TypeDesc.slice 31), false, 1, 24, [.raw (.slice none 0 0)], none, false, false⟩
theorem ti26_ok : TInfoOk Try.prog 26 ti26 := ⟨Try.underlying26, ⟨((.slice none 0 0)), by kernel_rfl, rfl, rfl⟩, rfl, rfl, rfl, fun c h => (by first | (cases h; done) | (obtain rfl := Option.some.inj h; exact ⟨rfl, rfl, rfl⟩)), fun h => (by first | (cases h; done) | exact ⟨by kernel_rfl, by kernel_rfl, by kernel_rfl⟩)⟩
/-- func(impl.Leaf, impl.Leaf) ([]impl.Leaf, int64) -/
def ti28 : TInfo := ⟨(TypeDesc.func #[31, 31] #[26, 2] false), false, 1, 8, [.raw .nilFunc], none, false, false⟩
theorem ti28_ok : TInfoOk Try.prog 28 ti28 := ⟨Try.underlying28, ⟨(.nilFunc), by kernel_rfl, rfl, rfl⟩, rfl, rfl, rfl, fun c h => (by first | (cases h; done) | (obtain rfl := Option.some.inj h; exact ⟨rfl, rfl, rfl⟩)), fun h => (by first | (cases h; done) | exact ⟨by kernel_rfl, by kernel_rfl, by kernel_rfl⟩)⟩
/-- impl.Angle = loop.example/g01234/impl.Angle -/
def ti29 : TInfo := ⟨(TypeDesc.struct #[{ name := "Num", type := 2, offset := 0, embedded := false, tag := "", pkgPath := "", byteOffset := 0 }, { name := "Den", type := 2, offset := 1, embedded := false, tag := "", pkgPath := "", byteOffset := 8 }]), true, 2, 16, [.int .i64 0, .int .i64 0], (some (.pair (.int .i64) (.int .i64))), true, false⟩
theorem ti29_ok : TInfoOk Try.prog 29 ti29 := ⟨Try.underlying29, ⟨(.agg #[.int .i64 0, .int .i64 0]), by kernel_rfl, rfl, rfl⟩, rfl, rfl, rfl, fun c h => (by first | (cases h; done) | (obtain rfl := Option.some.inj h; exact ⟨rfl, rfl, rfl⟩)), fun h => (by first | (cases h; done) | exact ⟨by kernel_rfl, by kernel_rfl, by kernel_rfl⟩)⟩
/-- struct { First impl.Angle; Second impl.Angle } -/
def ti30 : TInfo := ⟨(TypeDesc.struct #[{ name := "First", type := 29, offset := 0, embedded := false, tag := "", pkgPath := "", byteOffset := 0 }, { name := "Second", type := 29, offset := 2, embedded := false, tag := "", pkgPath := "", byteOffset := 16 }]), true, 4, 32, [.int .i64 0, .int .i64 0, .int .i64 0, .int .i64 0], (some (.pair (.pair (.int .i64) (.int .i64)) (.pair (.int .i64) (.int .i64)))), true, false⟩
theorem ti30_ok : TInfoOk Try.prog 30 ti30 := ⟨Try.underlying30, ⟨(.agg #[.int .i64 0, .int .i64 0, .int .i64 0, .int .i64 0]), by kernel_rfl, rfl, rfl⟩, rfl, rfl, rfl, fun c h => (by first | (cases h; done) | (obtain rfl := Option.some.inj h; exact ⟨rfl, rfl, rfl⟩)), fun h => (by first | (cases h; done) | exact ⟨by kernel_rfl, by kernel_rfl, by kernel_rfl⟩)⟩
/-- impl.Leaf = loop.example/g01234/impl.Leaf -/
def ti31 : TInfo := ⟨(TypeDesc.struct #[{ name := "First", type := 29, offset := 0, embedded := false, tag := "", pkgPath := "", byteOffset := 0 }, { name := "Second", type := 29, offset := 2, embedded := false, tag := "", pkgPath := "", byteOffset := 16 }]), true, 4, 32, [.int .i64 0, .int .i64 0, .int .i64 0, .int .i64 0], (some (.pair (.pair (.int .i64) (.int .i64)) (.pair (.int .i64) (.int .i64)))), true, false⟩
theorem ti31_ok : TInfoOk Try.prog 31 ti31 := ⟨Try.underlying31, ⟨(.agg #[.int .i64 0, .int .i64 0, .int .i64 0, .int .i64 0]), by kernel_rfl, rfl, rfl⟩, rfl, rfl, rfl, fun c h => (by first | (cases h; done) | (obtain rfl := Option.some.inj h; exact ⟨rfl, rfl, rfl⟩)), fun h => (by first | (cases h; done) | exact ⟨by kernel_rfl, by kernel_rfl, by kernel_rfl⟩)⟩
/-- func(laws.Leaf) impl.Leaf -/
def ti32 : TInfo := ⟨(TypeDesc.func #[25] #[31] false), false, 1, 8, [.raw .nilFunc], none, false, false⟩
theorem ti32_ok : TInfoOk Try.prog 32 ti32 := ⟨Try.underlying32, ⟨(.nilFunc), by kernel_rfl, rfl, rfl⟩, rfl, rfl, rfl, fun c h => (by first | (cases h; done) | (obtain rfl := Option.some.inj h; exact ⟨rfl, rfl, rfl⟩)), fun h => (by first | (cases h; done) | exact ⟨by kernel_rfl, by kernel_rfl, by kernel_rfl⟩)⟩
/-- func([]impl.Leaf, []impl.Leaf) bool -/
def ti33 : TInfo := ⟨(TypeDesc.func #[26, 26] #[4] false), false, 1, 8, [.raw .nilFunc], none, false, false⟩
theorem ti33_ok : TInfoOk Try.prog 33 ti33 := ⟨Try.underlying33, ⟨(.nilFunc), by kernel_rfl, rfl, rfl⟩, rfl, rfl, rfl, fun c h => (by first | (cases h; done) | (obtain rfl := Option.some.inj h; exact ⟨rfl, rfl, rfl⟩)), fun h => (by first | (cases h; done) | exact ⟨by kernel_rfl, by kernel_rfl, by kernel_rfl⟩)⟩
/-- func([]impl.Leaf, int) int -/
def ti34 : TInfo := ⟨(TypeDesc.func #[26, 3] #[3] false), false, 1, 8, [.raw .nilFunc], none, false, false⟩
theorem ti34_ok : TInfoOk Try.prog 34 ti34 := ⟨Try.underlying34, ⟨(.nilFunc), by kernel_rfl, rfl, rfl⟩, rfl, rfl, rfl, fun c h => (by first | (cases h; done) | (obtain rfl := Option.some.inj h; exact ⟨rfl, rfl, rfl⟩)), fun h => (by first | (cases h; done) | exact ⟨by kernel_rfl, by kernel_rfl, by kernel_rfl⟩)⟩
/-- func(laws.Leaf, laws.Leaf) bool -/
def ti35 : TInfo := ⟨(TypeDesc.func #[25, 25] #[4] false), false, 1, 8, [.raw .nilFunc], none, false, false⟩
theorem ti35_ok : TInfoOk Try.prog 35 ti35 := ⟨Try.underlying35, ⟨(.nilFunc), by kernel_rfl, rfl, rfl⟩, rfl, rfl, rfl, fun c h => (by first | (cases h; done) | (obtain rfl := Option.some.inj h; exact ⟨rfl, rfl, rfl⟩)), fun h => (by first | (cases h; done) | exact ⟨by kernel_rfl, by kernel_rfl, by kernel_rfl⟩)⟩
/-- []laws.Leaf -/
def ti36 : TInfo := ⟨(TypeDesc.slice 25), false, 1, 24, [.raw (.slice none 0 0)], none, false, false⟩
theorem ti36_ok : TInfoOk Try.prog 36 ti36 := ⟨Try.underlying36, ⟨((.slice none 0 0)), by kernel_rfl, rfl, rfl⟩, rfl, rfl, rfl, fun c h => (by first | (cases h; done) | (obtain rfl := Option.some.inj h; exact ⟨rfl, rfl, rfl⟩)), fun h => (by first | (cases h; done) | exact ⟨by kernel_rfl, by kernel_rfl, by kernel_rfl⟩)⟩
/-- func([]laws.Leaf, int) int -/
def ti37 : TInfo := ⟨(TypeDesc.func #[36, 3] #[3] false), false, 1, 8, [.raw .nilFunc], none, false, false⟩
theorem ti37_ok : TInfoOk Try.prog 37 ti37 := ⟨Try.underlying37, ⟨(.nilFunc), by kernel_rfl, rfl, rfl⟩, rfl, rfl, rfl, fun c h => (by first | (cases h; done) | (obtain rfl := Option.some.inj h; exact ⟨rfl, rfl, rfl⟩)), fun h => (by first | (cases h; done) | exact ⟨by kernel_rfl, by kernel_rfl, by kernel_rfl⟩)⟩
/-- func([]impl.Leaf, impl.Leaf) ([]impl.Leaf, int64) -/
def ti38 : TInfo := ⟨(TypeDesc.func #[26, 31] #[26, 2] false), false, 1, 8, [.raw .nilFunc], none, false, false⟩
theorem ti38_ok : TInfoOk Try.prog 38 ti38 := ⟨Try.underlying38, ⟨(.nilFunc), by kernel_rfl, rfl, rfl⟩, rfl, rfl, rfl, fun c h => (by first | (cases h; done) | (obtain rfl := Option.some.inj h; exact ⟨rfl, rfl, rfl⟩)), fun h => (by first | (cases h; done) | exact ⟨by kernel_rfl, by kernel_rfl, by kernel_rfl⟩)⟩
/-- func([]laws.Leaf) []impl.Leaf -/
def ti39 : TInfo := ⟨(TypeDesc.func #[36] #[26] false), false, 1, 8, [.raw .nilFunc], none, false, false⟩
theorem ti39_ok : TInfoOk Try.prog 39 ti39 := ⟨Try.underlying39, ⟨(.nilFunc), by kernel_rfl, rfl, rfl⟩, rfl, rfl, rfl, fun c h => (by first | (cases h; done) | (obtain rfl := Option.some.inj h; exact ⟨rfl, rfl, rfl⟩)), fun h => (by first | (cases h; done) | exact ⟨by kernel_rfl, by kernel_rfl, by kernel_rfl⟩)⟩
/-- func([]laws.Leaf, laws.Leaf) bool -/
def ti40 : TInfo := ⟨(TypeDesc.func #[36, 25] #[4] false), false, 1, 8, [.raw .nilFunc], none, false, false⟩
theorem ti40_ok : TInfoOk Try.prog 40 ti40 := ⟨Try.underlying40, ⟨(.nilFunc), by kernel_rfl, rfl, rfl⟩, rfl, rfl, rfl, fun c h => (by first | (cases h; done) | (obtain rfl := Option.some.inj h; exact ⟨rfl, rfl, rfl⟩)), fun h => (by first | (cases h; done) | exact ⟨by kernel_rfl, by kernel_rfl, by kernel_rfl⟩)⟩
/-- []impl.Angle -/
def ti41 : TInfo := ⟨(TypeDesc.slice 29), false, 1, 24, [.raw (.slice none 0 0)], none, false, false⟩
theorem ti41_ok : TInfoOk Try.prog 41 ti41 := ⟨Try.underlying41, ⟨((.slice none 0 0)), by kernel_rfl, rfl, rfl⟩, rfl, rfl, rfl, fun c h => (by first | (cases h; done) | (obtain rfl := Option.some.inj h; exact ⟨rfl, rfl, rfl⟩)), fun h => (by first | (cases h; done) | exact ⟨by kernel_rfl, by kernel_rfl, by kernel_rfl⟩)⟩
/-- func(int64, int64) ([]impl.Angle, int64) -/
def ti43 : TInfo := ⟨(TypeDesc.func #[2, 2] #[41, 2] false), false, 1, 8, [.raw .nilFunc], none, false, false⟩
theorem ti43_ok : TInfoOk Try.prog 43 ti43 := ⟨Try.underlying43, ⟨(.nilFunc), by kernel_rfl, rfl, rfl⟩, rfl, rfl, rfl, fun c h => (by first | (cases h; done) | (obtain rfl := Option.some.inj h; exact ⟨rfl, rfl, rfl⟩)), fun h => (by first | (cases h; done) | exact ⟨by kernel_rfl, by kernel_rfl, by kernel_rfl⟩)⟩
/-- func([]impl.Angle, []impl.Angle) bool -/
def ti44 : TInfo := ⟨(TypeDesc.func #[41, 41] #[4] false), false, 1, 8, [.raw .nilFunc], none, false, false⟩
theorem ti44_ok : TInfoOk Try.prog 44 ti44 := ⟨Try.underlying44, ⟨(.nilFunc), by kernel_rfl, rfl, rfl⟩, rfl, rfl, rfl, fun c h => (by first | (cases h; done) | (obtain rfl := Option.some.inj h; exact ⟨rfl, rfl, rfl⟩)), fun h => (by first | (cases h; done) | exact ⟨by kernel_rfl, by kernel_rfl, by kernel_rfl⟩)⟩
/-- func([]impl.Angle, int) int -/
def ti45 : TInfo := ⟨(TypeDesc.func #[41, 3] #[3] false), false, 1, 8, [.raw .nilFunc], none, false, false⟩
theorem ti45_ok : TInfoOk Try.prog 45 ti45 := ⟨Try.underlying45, ⟨(.nilFunc), by kernel_rfl, rfl, rfl⟩, rfl, rfl, rfl, fun c h => (by first | (cases h; done) | (obtain rfl := Option.some.inj h; exact ⟨rfl, rfl, rfl⟩)), fun h => (by first | (cases h; done) | exact ⟨by kernel_rfl, by kernel_rfl, by kernel_rfl⟩)⟩
/-- func(int64, int64) bool -/
def ti46 : TInfo := ⟨(TypeDesc.func #[2, 2] #[4] false), false, 1, 8, [.raw .nilFunc], none, false, false⟩
theorem ti46_ok : TInfoOk Try.prog 46 ti46 := ⟨Try.underlying46, ⟨(.nilFunc), by kernel_rfl, rfl, rfl⟩, rfl, rfl, rfl, fun c h => (by first | (cases h; done) | (obtain rfl := Option.some.inj h; exact ⟨rfl, rfl, rfl⟩)), fun h => (by first | (cases h; done) | exact ⟨by kernel_rfl, by kernel_rfl, by kernel_rfl⟩)⟩
/-- func(impl.Leaf) bool -/
def ti47 : TInfo := ⟨(TypeDesc.func #[31] #[4] false), false, 1, 8, [.raw .nilFunc], none, false, false⟩
theorem ti47_ok : TInfoOk Try.prog 47 ti47 := ⟨Try.underlying47, ⟨(.nilFunc), by kernel_rfl, rfl, rfl⟩, rfl, rfl, rfl, fun c h => (by first | (cases h; done) | (obtain rfl := Option.some.inj h; exact ⟨rfl, rfl, rfl⟩)), fun h => (by first | (cases h; done) | exact ⟨by kernel_rfl, by kernel_rfl, by kernel_rfl⟩)⟩
/-- func(impl.Leaf) ([]impl.Leaf, int64) -/
def ti48 : TInfo := ⟨(TypeDesc.func #[31] #[26, 2] false), false, 1, 8, [.raw .nilFunc], none, false, false⟩
theorem ti48_ok : TInfoOk Try.prog 48 ti48 := ⟨Try.underlying48, ⟨(.nilFunc), by kernel_rfl, rfl, rfl⟩, rfl, rfl, rfl, fun c h => (by first | (cases h; done) | (obtain rfl := Option.some.inj h; exact ⟨rfl, rfl, rfl⟩)), fun h => (by first | (cases h; done) | exact ⟨by kernel_rfl, by kernel_rfl, by kernel_rfl⟩)⟩
/-- func(impl.Leaf, impl.Leaf, []impl.Leaf) ([]impl.Leaf, int64) -/
def ti49 : TInfo := ⟨(TypeDesc.func #[31, 31, 26] #[26, 2] false), false, 1, 8, [.raw .nilFunc], none, false, false⟩
theorem ti49_ok : TInfoOk Try.prog 49 ti49 := ⟨Try.underlying49, ⟨(.nilFunc), by kernel_rfl, rfl, rfl⟩, rfl, rfl, rfl, fun c h => (by first | (cases h; done) | (obtain rfl := Option.some.inj h; exact ⟨rfl, rfl, rfl⟩)), fun h => (by first | (cases h; done) | exact ⟨by kernel_rfl, by kernel_rfl, by kernel_rfl⟩)⟩
/-- func(laws.Angle) impl.Angle -/
def ti50 : TInfo := ⟨(TypeDesc.func #[23] #[29] false), false, 1, 8, [.raw .nilFunc], none, false, false⟩
theorem ti50_ok : TInfoOk Try.prog 50 ti50 := ⟨Try.underlying50, ⟨(.nilFunc), by kernel_rfl, rfl, rfl⟩, rfl, rfl, rfl, fun c h => (by first | (cases h; done) | (obtain rfl := Option.some.inj h; exact ⟨rfl, rfl, rfl⟩)), fun h => (by first | (cases h; done) | exact ⟨by kernel_rfl, by kernel_rfl, by kernel_rfl⟩)⟩
/-- struct { leaf impl.Leaf; images []impl.Leaf; majors []impl.Leaf; fails int64 } -/
def ti51 : TInfo := ⟨(TypeDesc.struct #[{ name := "leaf", type := 31, offset := 0, embedded := false, tag := "", pkgPath := "loop.example/g01234/impl", byteOffset := 0 }, { name := "images", type := 26, offset := 4, embedded := false, tag := "", pkgPath := "loop.example/g01234/impl", byteOffset := 32 }, { name := "majors", type := 26, offset := 5, embedded := false, tag := "", pkgPath := "loop.example/g01234/impl", byteOffset := 56 }, { name := "fails", type := 2, offset := 6, embedded := false, tag := "", pkgPath := "loop.example/g01234/impl", byteOffset := 80 }]), true, 7, 88, [.int .i64 0, .int .i64 0, .int .i64 0, .int .i64 0, .raw (.slice none 0 0), .raw (.slice none 0 0), .int .i64 0], none, false, false⟩
theorem ti51_ok : TInfoOk Try.prog 51 ti51 := ⟨Try.underlying51, ⟨(.agg #[.int .i64 0, .int .i64 0, .int .i64 0, .int .i64 0, (.slice none 0 0), (.slice none 0 0), .int .i64 0]), by kernel_rfl, rfl, rfl⟩, rfl, rfl, rfl, fun c h => (by first | (cases h; done) | (obtain rfl := Option.some.inj h; exact ⟨rfl, rfl, rfl⟩)), fun h => (by first | (cases h; done) | exact ⟨by kernel_rfl, by kernel_rfl, by kernel_rfl⟩)⟩
/-- impl.minor = loop.example/g01234/impl.minor -/
def ti52 : TInfo := ⟨(TypeDesc.struct #[{ name := "leaf", type := 31, offset := 0, embedded := false, tag := "", pkgPath := "loop.example/g01234/impl", byteOffset := 0 }, { name := "images", type := 26, offset := 4, embedded := false, tag := "", pkgPath := "loop.example/g01234/impl", byteOffset := 32 }, { name := "majors", type := 26, offset := 5, embedded := false, tag := "", pkgPath := "loop.example/g01234/impl", byteOffset := 56 }, { name := "fails", type := 2, offset := 6, embedded := false, tag := "", pkgPath := "loop.example/g01234/impl", byteOffset := 80 }]), true, 7, 88, [.int .i64 0, .int .i64 0, .int .i64 0, .int .i64 0, .raw (.slice none 0 0), .raw (.slice none 0 0), .int .i64 0], none, false, false⟩
theorem ti52_ok : TInfoOk Try.prog 52 ti52 := ⟨Try.underlying52, ⟨(.agg #[.int .i64 0, .int .i64 0, .int .i64 0, .int .i64 0, (.slice none 0 0), (.slice none 0 0), .int .i64 0]), by kernel_rfl, rfl, rfl⟩, rfl, rfl, rfl, fun c h => (by first | (cases h; done) | (obtain rfl := Option.some.inj h; exact ⟨rfl, rfl, rfl⟩)), fun h => (by first | (cases h; done) | exact ⟨by kernel_rfl, by kernel_rfl, by kernel_rfl⟩)⟩
/-- func(impl.Leaf, bool, ...impl.Leaf) (impl.minor, int64) -/
def ti54 : TInfo := ⟨(TypeDesc.func #[31, 4, 26] #[52, 2] true), false, 1, 8, [.raw .nilFunc], none, false, false⟩
theorem ti54_ok : TInfoOk Try.prog 54 ti54 := ⟨Try.underlying54, ⟨(.nilFunc), by kernel_rfl, rfl, rfl⟩, rfl, rfl, rfl, fun c h => (by first | (cases h; done) | (obtain rfl := Option.some.inj h; exact ⟨rfl, rfl, rfl⟩)), fun h => (by first | (cases h; done) | exact ⟨by kernel_rfl, by kernel_rfl, by kernel_rfl⟩)⟩
/-- func([]impl.Leaf) []impl.Leaf -/
def ti55 : TInfo := ⟨(TypeDesc.func #[26] #[26] false), false, 1, 8, [.raw .nilFunc], none, false, false⟩
theorem ti55_ok : TInfoOk Try.prog 55 ti55 := ⟨Try.underlying55, ⟨(.nilFunc), by kernel_rfl, rfl, rfl⟩, rfl, rfl, rfl, fun c h => (by first | (cases h; done) | (obtain rfl := Option.some.inj h; exact ⟨rfl, rfl, rfl⟩)), fun h => (by first | (cases h; done) | exact ⟨by kernel_rfl, by kernel_rfl, by kernel_rfl⟩)⟩
/-- func(impl.Leaf, impl.Leaf) bool -/
def ti56 : TInfo := ⟨(TypeDesc.func #[31, 31] #[4] false), false, 1, 8, [.raw .nilFunc], none, false, false⟩
theorem ti56_ok : TInfoOk Try.prog 56 ti56 := ⟨Try.underlying56, ⟨(.nilFunc), by kernel_rfl, rfl, rfl⟩, rfl, rfl, rfl, fun c h => (by first | (cases h; done) | (obtain rfl := Option.some.inj h; exact ⟨rfl, rfl, rfl⟩)), fun h => (by first | (cases h; done) | exact ⟨by kernel_rfl, by kernel_rfl, by kernel_rfl⟩)⟩
/-- func([]impl.Leaf) bool -/
def ti57 : TInfo := ⟨(TypeDesc.func #[26] #[4] false), false, 1, 8, [.raw .nilFunc], none, false, false⟩
theorem ti57_ok : TInfoOk Try.prog 57 ti57 := ⟨Try.underlying57, ⟨(.nilFunc), by kernel_rfl, rfl, rfl⟩, rfl, rfl, rfl, fun c h => (by first | (cases h; done) | (obtain rfl := Option.some.inj h; exact ⟨rfl, rfl, rfl⟩)), fun h => (by first | (cases h; done) | exact ⟨by kernel_rfl, by kernel_rfl, by kernel_rfl⟩)⟩
/-- func([]impl.Leaf, impl.Leaf) []impl.Leaf -/
def ti58 : TInfo := ⟨(TypeDesc.func #[26, 31] #[26] false), false, 1, 8, [.raw .nilFunc], none, false, false⟩
theorem ti58_ok : TInfoOk Try.prog 58 ti58 := ⟨Try.underlying58, ⟨(.nilFunc), by kernel_rfl, rfl, rfl⟩, rfl, rfl, rfl, fun c h => (by first | (cases h; done) | (obtain rfl := Option.some.inj h; exact ⟨rfl, rfl, rfl⟩)), fun h => (by first | (cases h; done) | exact ⟨by kernel_rfl, by kernel_rfl, by kernel_rfl⟩)⟩
/-- func([]impl.Leaf, func(impl.Leaf) bool) bool -/
def ti59 : TInfo := ⟨(TypeDesc.func #[26, 47] #[4] false), false, 1, 8, [.raw .nilFunc], none, false, false⟩
theorem ti59_ok : TInfoOk Try.prog 59 ti59 := ⟨Try.underlying59, ⟨(.nilFunc), by kernel_rfl, rfl, rfl⟩, rfl, rfl, rfl, fun c h => (by first | (cases h; done) | (obtain rfl := Option.some.inj h; exact ⟨rfl, rfl, rfl⟩)), fun h => (by first | (cases h; done) | exact ⟨by kernel_rfl, by kernel_rfl, by kernel_rfl⟩)⟩
/-- func(int64, int64, int64) bool -/
def ti60 : TInfo := ⟨(TypeDesc.func #[2, 2, 2] #[4] false), false, 1, 8, [.raw .nilFunc], none, false, false⟩
theorem ti60_ok : TInfoOk Try.prog 60 ti60 := ⟨Try.underlying60, ⟨(.nilFunc), by kernel_rfl, rfl, rfl⟩, rfl, rfl, rfl, fun c h => (by first | (cases h; done) | (obtain rfl := Option.some.inj h; exact ⟨rfl, rfl, rfl⟩)), fun h => (by first | (cases h; done) | exact ⟨by kernel_rfl, by kernel_rfl, by kernel_rfl⟩)⟩
/-- func(int64, int64) int64 -/
def ti61 : TInfo := ⟨(TypeDesc.func #[2, 2] #[2] false), false, 1, 8, [.raw .nilFunc], none, false, false⟩
theorem ti61_ok : TInfoOk Try.prog 61 ti61 := ⟨Try.underlying61, ⟨(.nilFunc), by kernel_rfl, rfl, rfl⟩, rfl, rfl, rfl, fun c h => (by first | (cases h; done) | (obtain rfl := Option.some.inj h; exact ⟨rfl, rfl, rfl⟩)), fun h => (by first | (cases h; done) | exact ⟨by kernel_rfl, by kernel_rfl, by kernel_rfl⟩)⟩
/-- func(int64, int64) []impl.Angle -/
def ti62 : TInfo := ⟨(TypeDesc.func #[2, 2] #[41] false), false, 1, 8, [.raw .nilFunc], none, false, false⟩
theorem ti62_ok : TInfoOk Try.prog 62 ti62 := ⟨Try.underlying62, ⟨(.nilFunc), by kernel_rfl, rfl, rfl⟩, rfl, rfl, rfl, fun c h => (by first | (cases h; done) | (obtain rfl := Option.some.inj h; exact ⟨rfl, rfl, rfl⟩)), fun h => (by first | (cases h; done) | exact ⟨by kernel_rfl, by kernel_rfl, by kernel_rfl⟩)⟩
/-- func(int64, int64) impl.Angle -/
def ti63 : TInfo := ⟨(TypeDesc.func #[2, 2] #[29] false), false, 1, 8, [.raw .nilFunc], none, false, false⟩
theorem ti63_ok : TInfoOk Try.prog 63 ti63 := ⟨Try.underlying63, ⟨(.nilFunc), by kernel_rfl, rfl, rfl⟩, rfl, rfl, rfl, fun c h => (by first | (cases h; done) | (obtain rfl := Option.some.inj h; exact ⟨rfl, rfl, rfl⟩)), fun h => (by first | (cases h; done) | exact ⟨by kernel_rfl, by kernel_rfl, by kernel_rfl⟩)⟩
/-- func([]impl.Angle) []impl.Angle -/
def ti64 : TInfo := ⟨(TypeDesc.func #[41] #[41] false), false, 1, 8, [.raw .nilFunc], none, false, false⟩
theorem ti64_ok : TInfoOk Try.prog 64 ti64 := ⟨Try.underlying64, ⟨(.nilFunc), by kernel_rfl, rfl, rfl⟩, rfl, rfl, rfl, fun c h => (by first | (cases h; done) | (obtain rfl := Option.some.inj h; exact ⟨rfl, rfl, rfl⟩)), fun h => (by first | (cases h; done) | exact ⟨by kernel_rfl, by kernel_rfl, by kernel_rfl⟩)⟩
/-- func(impl.Angle, impl.Angle) bool -/
def ti65 : TInfo := ⟨(TypeDesc.func #[29, 29] #[4] false), false, 1, 8, [.raw .nilFunc], none, false, false⟩
theorem ti65_ok : TInfoOk Try.prog 65 ti65 := ⟨Try.underlying65, ⟨(.nilFunc), by kernel_rfl, rfl, rfl⟩, rfl, rfl, rfl, fun c h => (by first | (cases h; done) | (obtain rfl := Option.some.inj h; exact ⟨rfl, rfl, rfl⟩)), fun h => (by first | (cases h; done) | exact ⟨by kernel_rfl, by kernel_rfl, by kernel_rfl⟩)⟩
/-- func(impl.Angle) bool -/
def ti66 : TInfo := ⟨(TypeDesc.func #[29] #[4] false), false, 1, 8, [.raw .nilFunc], none, false, false⟩
theorem ti66_ok : TInfoOk Try.prog 66 ti66 := ⟨Try.underlying66, ⟨(.nilFunc), by kernel_rfl, rfl, rfl⟩, rfl, rfl, rfl, fun c h => (by first | (cases h; done) | (obtain rfl := Option.some.inj h; exact ⟨rfl, rfl, rfl⟩)), fun h => (by first | (cases h; done) | exact ⟨by kernel_rfl, by kernel_rfl, by kernel_rfl⟩)⟩
/-- func(impl.Leaf) (int64, bool) -/
def ti68 : TInfo := ⟨(TypeDesc.func #[31] #[2, 4] false), false, 1, 8, [.raw .nilFunc], none, false, false⟩
theorem ti68_ok : TInfoOk Try.prog 68 ti68 := ⟨Try.underlying68, ⟨(.nilFunc), by kernel_rfl, rfl, rfl⟩, rfl, rfl, rfl, fun c h => (by first | (cases h; done) | (obtain rfl := Option.some.inj h; exact ⟨rfl, rfl, rfl⟩)), fun h => (by first | (cases h; done) | exact ⟨by kernel_rfl, by kernel_rfl, by kernel_rfl⟩)⟩
/-- func(impl.Leaf) ([]impl.Leaf, bool) -/
def ti70 : TInfo := ⟨(TypeDesc.func #[31] #[26, 4] false), false, 1, 8, [.raw .nilFunc], none, false, false⟩
theorem ti70_ok : TInfoOk Try.prog 70 ti70 := ⟨Try.underlying70, ⟨(.nilFunc), by kernel_rfl, rfl, rfl⟩, rfl, rfl, rfl, fun c h => (by first | (cases h; done) | (obtain rfl := Option.some.inj h; exact ⟨rfl, rfl, rfl⟩)), fun h => (by first | (cases h; done) | exact ⟨by kernel_rfl, by kernel_rfl, by kernel_rfl⟩)⟩
/-- func(impl.Angle) (impl.Angle, impl.Angle, bool) -/
def ti72 : TInfo := ⟨(TypeDesc.func #[29] #[29, 29, 4] false), false, 1, 8, [.raw .nilFunc], none, false, false⟩
theorem ti72_ok : TInfoOk Try.prog 72 ti72 := ⟨Try.underlying72, ⟨(.nilFunc), by kernel_rfl, rfl, rfl⟩, rfl, rfl, rfl, fun c h => (by first | (cases h; done) | (obtain rfl := Option.some.inj h; exact ⟨rfl, rfl, rfl⟩)), fun h => (by first | (cases h; done) | exact ⟨by kernel_rfl, by kernel_rfl, by kernel_rfl⟩)⟩
/-- func(impl.Leaf, impl.Leaf) []impl.Leaf -/
def ti73 : TInfo := ⟨(TypeDesc.func #[31, 31] #[26] false), false, 1, 8, [.raw .nilFunc], none, false, false⟩
theorem ti73_ok : TInfoOk Try.prog 73 ti73 := ⟨Try.underlying73, ⟨(.nilFunc), by kernel_rfl, rfl, rfl⟩, rfl, rfl, rfl, fun c h => (by first | (cases h; done) | (obtain rfl := Option.some.inj h; exact ⟨rfl, rfl, rfl⟩)), fun h => (by first | (cases h; done) | exact ⟨by kernel_rfl, by kernel_rfl, by kernel_rfl⟩)⟩
/-- func(impl.Angle, impl.Angle) impl.Leaf -/
def ti74 : TInfo := ⟨(TypeDesc.func #[29, 29] #[31] false), false, 1, 8, [.raw .nilFunc], none, false, false⟩
theorem ti74_ok : TInfoOk Try.prog 74 ti74 := ⟨Try.underlying74, ⟨(.nilFunc), by kernel_rfl, rfl, rfl⟩, rfl, rfl, rfl, fun c h => (by first | (cases h; done) | (obtain rfl := Option.some.inj h; exact ⟨rfl, rfl, rfl⟩)), fun h => (by first | (cases h; done) | exact ⟨by kernel_rfl, by kernel_rfl, by kernel_rfl⟩)⟩
/-- func(...impl.Leaf) int64 -/
def ti75 : TInfo := ⟨(TypeDesc.func #[26] #[2] true), false, 1, 8, [.raw .nilFunc], none, false, false⟩
theorem ti75_ok : TInfoOk Try.prog 75 ti75 := ⟨Try.underlying75, ⟨(.nilFunc), by kernel_rfl, rfl, rfl⟩, rfl, rfl, rfl, fun c h => (by first | (cases h; done) | (obtain rfl := Option.some.inj h; exact ⟨rfl, rfl, rfl⟩)), fun h => (by first | (cases h; done) | exact ⟨by kernel_rfl, by kernel_rfl, by kernel_rfl⟩)⟩
/-- func(impl.Leaf) (impl.minor, int64) -/
def ti76 : TInfo := ⟨(TypeDesc.func #[31] #[52, 2] false), false, 1, 8, [.raw .nilFunc], none, false, false⟩
theorem ti76_ok : TInfoOk Try.prog 76 ti76 := ⟨Try.underlying76, ⟨(.nilFunc), by kernel_rfl, rfl, rfl⟩, rfl, rfl, rfl, fun c h => (by first | (cases h; done) | (obtain rfl := Option.some.inj h; exact ⟨rfl, rfl, rfl⟩)), fun h => (by first | (cases h; done) | exact ⟨by kernel_rfl, by kernel_rfl, by kernel_rfl⟩)⟩
/-- func() ([]impl.Leaf, []impl.Leaf) -/
def ti78 : TInfo := ⟨(TypeDesc.func #[] #[26, 26] false), false, 1, 8, [.raw .nilFunc], none, false, false⟩
theorem ti78_ok : TInfoOk Try.prog 78 ti78 := ⟨Try.underlying78, ⟨(.nilFunc), by kernel_rfl, rfl, rfl⟩, rfl, rfl, rfl, fun c h => (by first | (cases h; done) | (obtain rfl := Option.some.inj h; exact ⟨rfl, rfl, rfl⟩)), fun h => (by first | (cases h; done) | exact ⟨by kernel_rfl, by kernel_rfl, by kernel_rfl⟩)⟩
/-- func([]impl.Leaf) ([]impl.Leaf, int64) -/
def ti79 : TInfo := ⟨(TypeDesc.func #[26] #[26, 2] false), false, 1, 8, [.raw .nilFunc], none, false, false⟩
theorem ti79_ok : TInfoOk Try.prog 79 ti79 := ⟨Try.underlying79, ⟨(.nilFunc), by kernel_rfl, rfl, rfl⟩, rfl, rfl, rfl, fun c h => (by first | (cases h; done) | (obtain rfl := Option.some.inj h; exact ⟨rfl, rfl, rfl⟩)), fun h => (by first | (cases h; done) | exact ⟨by kernel_rfl, by kernel_rfl, by kernel_rfl⟩)⟩
/-- func(impl.Angle, impl.Angle, impl.Angle) bool -/
def ti80 : TInfo := ⟨(TypeDesc.func #[29, 29, 29] #[4] false), false, 1, 8, [.raw .nilFunc], none, false, false⟩
theorem ti80_ok : TInfoOk Try.prog 80 ti80 := ⟨Try.underlying80, ⟨(.nilFunc), by kernel_rfl, rfl, rfl⟩, rfl, rfl, rfl, fun c h => (by first | (cases h; done) | (obtain rfl := Option.some.inj h; exact ⟨rfl, rfl, rfl⟩)), fun h => (by first | (cases h; done) | exact ⟨by kernel_rfl, by kernel_rfl, by kernel_rfl⟩)⟩
/-- func(impl.Leaf) int -/
def ti81 : TInfo := ⟨(TypeDesc.func #[31] #[3] false), false, 1, 8, [.raw .nilFunc], none, false, false⟩
theorem ti81_ok : TInfoOk Try.prog 81 ti81 := ⟨Try.underlying81, ⟨(.nilFunc), by kernel_rfl, rfl, rfl⟩, rfl, rfl, rfl, fun c h => (by first | (cases h; done) | (obtain rfl := Option.some.inj h; exact ⟨rfl, rfl, rfl⟩)), fun h => (by first | (cases h; done) | exact ⟨by kernel_rfl, by kernel_rfl, by kernel_rfl⟩)⟩
/-- func(impl.Angle) int -/
def ti82 : TInfo := ⟨(TypeDesc.func #[29] #[3] false), false, 1, 8, [.raw .nilFunc], none, false, false⟩
theorem ti82_ok : TInfoOk Try.prog 82 ti82 := ⟨Try.underlying82, ⟨(.nilFunc), by kernel_rfl, rfl, rfl⟩, rfl, rfl, rfl, fun c h => (by first | (cases h; done) | (obtain rfl := Option.some.inj h; exact ⟨rfl, rfl, rfl⟩)), fun h => (by first | (cases h; done) | exact ⟨by kernel_rfl, by kernel_rfl, by kernel_rfl⟩)⟩
/-- func([]impl.Leaf, func(impl.Leaf) bool) int -/
def ti83 : TInfo := ⟨(TypeDesc.func #[26, 47] #[3] false), false, 1, 8, [.raw .nilFunc], none, false, false⟩
theorem ti83_ok : TInfoOk Try.prog 83 ti83 := ⟨Try.underlying83, ⟨(.nilFunc), by kernel_rfl, rfl, rfl⟩, rfl, rfl, rfl, fun c h => (by first | (cases h; done) | (obtain rfl := Option.some.inj h; exact ⟨rfl, rfl, rfl⟩)), fun h => (by first | (cases h; done) | exact ⟨by kernel_rfl, by kernel_rfl, by kernel_rfl⟩)⟩
/-- func(impl.Angle, impl.Angle, impl.Angle) int64 -/
def ti84 : TInfo := ⟨(TypeDesc.func #[29, 29, 29] #[2] false), false, 1, 8, [.raw .nilFunc], none, false, false⟩
theorem ti84_ok : TInfoOk Try.prog 84 ti84 := ⟨Try.underlying84, ⟨(.nilFunc), by kernel_rfl, rfl, rfl⟩, rfl, rfl, rfl, fun c h => (by first | (cases h; done) | (obtain rfl := Option.some.inj h; exact ⟨rfl, rfl, rfl⟩)), fun h => (by first | (cases h; done) | exact ⟨by kernel_rfl, by kernel_rfl, by kernel_rfl⟩)⟩
/-- func([]impl.Leaf, impl.Leaf, func(impl.Leaf, impl.Leaf) int) (int, bool) -/
def ti86 : TInfo := ⟨(TypeDesc.func #[26, 31, 87] #[3, 4] false), false, 1, 8, [.raw .nilFunc], none, false, false⟩
theorem ti86_ok : TInfoOk Try.prog 86 ti86 := ⟨Try.underlying86, ⟨(.nilFunc), by kernel_rfl, rfl, rfl⟩, rfl, rfl, rfl, fun c h => (by first | (cases h; done) | (obtain rfl := Option.some.inj h; exact ⟨rfl, rfl, rfl⟩)), fun h => (by first | (cases h; done) | exact ⟨by kernel_rfl, by kernel_rfl, by kernel_rfl⟩)⟩
/-- func(impl.Leaf, impl.Leaf) int -/
def ti87 : TInfo := ⟨(TypeDesc.func #[31, 31] #[3] false), false, 1, 8, [.raw .nilFunc], none, false, false⟩
theorem ti87_ok : TInfoOk Try.prog 87 ti87 := ⟨Try.underlying87, ⟨(.nilFunc), by kernel_rfl, rfl, rfl⟩, rfl, rfl, rfl, fun c h => (by first | (cases h; done) | (obtain rfl := Option.some.inj h; exact ⟨rfl, rfl, rfl⟩)), fun h => (by first | (cases h; done) | exact ⟨by kernel_rfl, by kernel_rfl, by kernel_rfl⟩)⟩
/-- func([]impl.Leaf, int, ...impl.Leaf) []impl.Leaf -/
def ti88 : TInfo := ⟨(TypeDesc.func #[26, 3, 26] #[26] true), false, 1, 8, [.raw .nilFunc], none, false, false⟩
theorem ti88_ok : TInfoOk Try.prog 88 ti88 := ⟨Try.underlying88, ⟨(.nilFunc), by kernel_rfl, rfl, rfl⟩, rfl, rfl, rfl, fun c h => (by first | (cases h; done) | (obtain rfl := Option.some.inj h; exact ⟨rfl, rfl, rfl⟩)), fun h => (by first | (cases h; done) | exact ⟨by kernel_rfl, by kernel_rfl, by kernel_rfl⟩)⟩
/-- func([]impl.Angle, impl.Angle) []impl.Angle -/
def ti89 : TInfo := ⟨(TypeDesc.func #[41, 29] #[41] false), false, 1, 8, [.raw .nilFunc], none, false, false⟩
theorem ti89_ok : TInfoOk Try.prog 89 ti89 := ⟨Try.underlying89, ⟨(.nilFunc), by kernel_rfl, rfl, rfl⟩, rfl, rfl, rfl, fun c h => (by first | (cases h; done) | (obtain rfl := Option.some.inj h; exact ⟨rfl, rfl, rfl⟩)), fun h => (by first | (cases h; done) | exact ⟨by kernel_rfl, by kernel_rfl, by kernel_rfl⟩)⟩
/-- func(iter.Seq[loop.example/g01234/impl.Angle], func(impl.Angle, impl.Angle) int) []impl.Angle -/
def ti90 : TInfo := ⟨(TypeDesc.func #[92, 94] #[41] false), false, 1, 8, [.raw .nilFunc], none, false, false⟩
theorem ti90_ok : TInfoOk Try.prog 90 ti90 := ⟨Try.underlying90, ⟨(.nilFunc), by kernel_rfl, rfl, rfl⟩, rfl, rfl, rfl, fun c h => (by first | (cases h; done) | (obtain rfl := Option.some.inj h; exact ⟨rfl, rfl, rfl⟩)), fun h => (by first | (cases h; done) | exact ⟨by kernel_rfl, by kernel_rfl, by kernel_rfl⟩)⟩
/-- func(func(impl.Angle) bool) -/
def ti91 : TInfo := ⟨(TypeDesc.func #[66] #[] false), false, 1, 8, [.raw .nilFunc], none, false, false⟩
theorem ti91_ok : TInfoOk Try.prog 91 ti91 := ⟨Try.underlying91, ⟨(.nilFunc), by kernel_rfl, rfl, rfl⟩, rfl, rfl, rfl, fun c h => (by first | (cases h; done) | (obtain rfl := Option.some.inj h; exact ⟨rfl, rfl, rfl⟩)), fun h => (by first | (cases h; done) | exact ⟨by kernel_rfl, by kernel_rfl, by kernel_rfl⟩)⟩
/-- iter.Seq[loop.example/g01234/impl.Angle] -/
def ti92 : TInfo := ⟨(TypeDesc.func #[66] #[] false), false, 1, 8, [.raw .nilFunc], none, false, false⟩
theorem ti92_ok : TInfoOk Try.prog 92 ti92 := ⟨Try.underlying92, ⟨(.nilFunc), by kernel_rfl, rfl, rfl⟩, rfl, rfl, rfl, fun c h => (by first | (cases h; done) | (obtain rfl := Option.some.inj h; exact ⟨rfl, rfl, rfl⟩)), fun h => (by first | (cases h; done) | exact ⟨by kernel_rfl, by kernel_rfl, by kernel_rfl⟩)⟩
/-- func([]impl.Angle) iter.Seq[loop.example/g01234/impl.Angle] -/
def ti93 : TInfo := ⟨(TypeDesc.func #[41] #[92] false), false, 1, 8, [.raw .nilFunc], none, false, false⟩
theorem ti93_ok : TInfoOk Try.prog 93 ti93 := ⟨Try.underlying93, ⟨(.nilFunc), by kernel_rfl, rfl, rfl⟩, rfl, rfl, rfl, fun c h => (by first | (cases h; done) | (obtain rfl := Option.some.inj h; exact ⟨rfl, rfl, rfl⟩)), fun h => (by first | (cases h; done) | exact ⟨by kernel_rfl, by kernel_rfl, by kernel_rfl⟩)⟩
/-- func(impl.Angle, impl.Angle) int -/
def ti94 : TInfo := ⟨(TypeDesc.func #[29, 29] #[3] false), false, 1, 8, [.raw .nilFunc], none, false, false⟩
theorem ti94_ok : TInfoOk Try.prog 94 ti94 := ⟨Try.underlying94, ⟨(.nilFunc), by kernel_rfl, rfl, rfl⟩, rfl, rfl, rfl, fun c h => (by first | (cases h; done) | (obtain rfl := Option.some.inj h; exact ⟨rfl, rfl, rfl⟩)), fun h => (by first | (cases h; done) | exact ⟨by kernel_rfl, by kernel_rfl, by kernel_rfl⟩)⟩
/-- func(impl.Angle, impl.Angle) impl.Angle -/
def ti95 : TInfo := ⟨(TypeDesc.func #[29, 29] #[29] false), false, 1, 8, [.raw .nilFunc], none, false, false⟩
theorem ti95_ok : TInfoOk Try.prog 95 ti95 := ⟨Try.underlying95, ⟨(.nilFunc), by kernel_rfl, rfl, rfl⟩, rfl, rfl, rfl, fun c h => (by first | (cases h; done) | (obtain rfl := Option.some.inj h; exact ⟨rfl, rfl, rfl⟩)), fun h => (by first | (cases h; done) | exact ⟨by kernel_rfl, by kernel_rfl, by kernel_rfl⟩)⟩
/-- func(impl.Leaf) (impl.Angle, impl.Angle) -/
def ti97 : TInfo := ⟨(TypeDesc.func #[31] #[29, 29] false), false, 1, 8, [.raw .nilFunc], none, false, false⟩
theorem ti97_ok : TInfoOk Try.prog 97 ti97 := ⟨Try.underlying97, ⟨(.nilFunc), by kernel_rfl, rfl, rfl⟩, rfl, rfl, rfl, fun c h => (by first | (cases h; done) | (obtain rfl := Option.some.inj h; exact ⟨rfl, rfl, rfl⟩)), fun h => (by first | (cases h; done) | exact ⟨by kernel_rfl, by kernel_rfl, by kernel_rfl⟩)⟩
/-- func() bool -/
def ti98 : TInfo := ⟨(TypeDesc.func #[] #[4] false), false, 1, 8, [.raw .nilFunc], none, false, false⟩
theorem ti98_ok : TInfoOk Try.prog 98 ti98 := ⟨Try.underlying98, ⟨(.nilFunc), by kernel_rfl, rfl, rfl⟩, rfl, rfl, rfl, fun c h => (by first | (cases h; done) | (obtain rfl := Option.some.inj h; exact ⟨rfl, rfl, rfl⟩)), fun h => (by first | (cases h; done) | exact ⟨by kernel_rfl, by kernel_rfl, by kernel_rfl⟩)⟩
/-- func() ([]impl.Leaf, bool) -/
def ti99 : TInfo := ⟨(TypeDesc.func #[] #[26, 4] false), false, 1, 8, [.raw .nilFunc], none, false, false⟩
theorem ti99_ok : TInfoOk Try.prog 99 ti99 := ⟨Try.underlying99, ⟨(.nilFunc), by kernel_rfl, rfl, rfl⟩, rfl, rfl, rfl, fun c h => (by first | (cases h; done) | (obtain rfl := Option.some.inj h; exact ⟨rfl, rfl, rfl⟩)), fun h => (by first | (cases h; done) | exact ⟨by kernel_rfl, by kernel_rfl, by kernel_rfl⟩)⟩
/-- func() ([]impl.Leaf, int64) -/
def ti100 : TInfo := ⟨(TypeDesc.func #[] #[26, 2] false), false, 1, 8, [.raw .nilFunc], none, false, false⟩
theorem ti100_ok : TInfoOk Try.prog 100 ti100 := ⟨Try.underlying100, ⟨(.nilFunc), by kernel_rfl, rfl, rfl⟩, rfl, rfl, rfl, fun c h => (by first | (cases h; done) | (obtain rfl := Option.some.inj h; exact ⟨rfl, rfl, rfl⟩)), fun h => (by first | (cases h; done) | exact ⟨by kernel_rfl, by kernel_rfl, by kernel_rfl⟩)⟩
/-- func() impl.Angle -/
def ti101 : TInfo := ⟨(TypeDesc.func #[] #[29] false), false, 1, 8, [.raw .nilFunc], none, false, false⟩
theorem ti101_ok : TInfoOk Try.prog 101 ti101 := ⟨Try.underlying101, ⟨(.nilFunc), by kernel_rfl, rfl, rfl⟩, rfl, rfl, rfl, fun c h => (by first | (cases h; done) | (obtain rfl := Option.some.inj h; exact ⟨rfl, rfl, rfl⟩)), fun h => (by first | (cases h; done) | exact ⟨by kernel_rfl, by kernel_rfl, by kernel_rfl⟩)⟩
/-- func() (impl.Angle, impl.Angle) -/
def ti102 : TInfo := ⟨(TypeDesc.func #[] #[29, 29] false), false, 1, 8, [.raw .nilFunc], none, false, false⟩
theorem ti102_ok : TInfoOk Try.prog 102 ti102 := ⟨Try.underlying102, ⟨(.nilFunc), by kernel_rfl, rfl, rfl⟩, rfl, rfl, rfl, fun c h => (by first | (cases h; done) | (obtain rfl := Option.some.inj h; exact ⟨rfl, rfl, rfl⟩)), fun h => (by first | (cases h; done) | exact ⟨by kernel_rfl, by kernel_rfl, by kernel_rfl⟩)⟩
/-- func([]impl.Leaf) (int64, int64) -/
def ti104 : TInfo := ⟨(TypeDesc.func #[26] #[2, 2] false), false, 1, 8, [.raw .nilFunc], none, false, false⟩
theorem ti104_ok : TInfoOk Try.prog 104 ti104 := ⟨Try.underlying104, ⟨(.nilFunc), by kernel_rfl, rfl, rfl⟩, rfl, rfl, rfl, fun c h => (by first | (cases h; done) | (obtain rfl := Option.some.inj h; exact ⟨rfl, rfl, rfl⟩)), fun h => (by first | (cases h; done) | exact ⟨by kernel_rfl, by kernel_rfl, by kernel_rfl⟩)⟩
/-- uint64 -/
def ti105 : TInfo := ⟨(TypeDesc.int IntKind.u64), false, 1, 8, [.int .u64 0], (some (.int .u64)), false, false⟩
theorem ti105_ok : TInfoOk Try.prog 105 ti105 := ⟨Try.underlying105, ⟨(.int .u64 0), by kernel_rfl, rfl, rfl⟩, rfl, rfl, rfl, fun c h => (by first | (cases h; done) | (obtain rfl := Option.some.inj h; exact ⟨rfl, rfl, rfl⟩)), fun h => (by first | (cases h; done) | exact ⟨by kernel_rfl, by kernel_rfl, by kernel_rfl⟩)⟩
/-- func(uint64, uint64) (uint64, uint64) -/
def ti107 : TInfo := ⟨(TypeDesc.func #[105, 105] #[105, 105] false), false, 1, 8, [.raw .nilFunc], none, false, false⟩
theorem ti107_ok : TInfoOk Try.prog 107 ti107 := ⟨Try.underlying107, ⟨(.nilFunc), by kernel_rfl, rfl, rfl⟩, rfl, rfl, rfl, fun c h => (by first | (cases h; done) | (obtain rfl := Option.some.inj h; exact ⟨rfl, rfl, rfl⟩)), fun h => (by first | (cases h; done) | exact ⟨by kernel_rfl, by kernel_rfl, by kernel_rfl⟩)⟩
/-- func(...int) int -/
def ti108 : TInfo := ⟨(TypeDesc.func #[118] #[3] true), false, 1, 8, [.raw .nilFunc], none, false, false⟩
theorem ti108_ok : TInfoOk Try.prog 108 ti108 := ⟨Try.underlying108, ⟨(.nilFunc), by kernel_rfl, rfl, rfl⟩, rfl, rfl, rfl, fun c h => (by first | (cases h; done) | (obtain rfl := Option.some.inj h; exact ⟨rfl, rfl, rfl⟩)), fun h => (by first | (cases h; done) | exact ⟨by kernel_rfl, by kernel_rfl, by kernel_rfl⟩)⟩
/-- func(int64, int64) int -/
def ti109 : TInfo := ⟨(TypeDesc.func #[2, 2] #[3] false), false, 1, 8, [.raw .nilFunc], none, false, false⟩
theorem ti109_ok : TInfoOk Try.prog 109 ti109 := ⟨Try.underlying109, ⟨(.nilFunc), by kernel_rfl, rfl, rfl⟩, rfl, rfl, rfl, fun c h => (by first | (cases h; done) | (obtain rfl := Option.some.inj h; exact ⟨rfl, rfl, rfl⟩)), fun h => (by first | (cases h; done) | exact ⟨by kernel_rfl, by kernel_rfl, by kernel_rfl⟩)⟩
/-- func(impl.Angle) impl.Angle -/
def ti110 : TInfo := ⟨(TypeDesc.func #[29] #[29] false), false, 1, 8, [.raw .nilFunc], none, false, false⟩
theorem ti110_ok : TInfoOk Try.prog 110 ti110 := ⟨Try.underlying110, ⟨(.nilFunc), by kernel_rfl, rfl, rfl⟩, rfl, rfl, rfl, fun c h => (by first | (cases h; done) | (obtain rfl := Option.some.inj h; exact ⟨rfl, rfl, rfl⟩)), fun h => (by first | (cases h; done) | exact ⟨by kernel_rfl, by kernel_rfl, by kernel_rfl⟩)⟩
/-- uint -/
def ti111 : TInfo := ⟨(TypeDesc.int IntKind.u64), false, 1, 8, [.int .u64 0], (some (.int .u64)), false, false⟩
theorem ti111_ok : TInfoOk Try.prog 111 ti111 := ⟨Try.underlying111, ⟨(.int .u64 0), by kernel_rfl, rfl, rfl⟩, rfl, rfl, rfl, fun c h => (by first | (cases h; done) | (obtain rfl := Option.some.inj h; exact ⟨rfl, rfl, rfl⟩)), fun h => (by first | (cases h; done) | exact ⟨by kernel_rfl, by kernel_rfl, by kernel_rfl⟩)⟩
/-- func([]impl.Leaf, int) -/
def ti112 : TInfo := ⟨(TypeDesc.func #[26, 3] #[] false), false, 1, 8, [.raw .nilFunc], none, false, false⟩
theorem ti112_ok : TInfoOk Try.prog 112 ti112 := ⟨Try.underlying112, ⟨(.nilFunc), by kernel_rfl, rfl, rfl⟩, rfl, rfl, rfl, fun c h => (by first | (cases h; done) | (obtain rfl := Option.some.inj h; exact ⟨rfl, rfl, rfl⟩)), fun h => (by first | (cases h; done) | exact ⟨by kernel_rfl, by kernel_rfl, by kernel_rfl⟩)⟩
/-- func(iter.Seq[loop.example/g01234/impl.Angle]) []impl.Angle -/
def ti113 : TInfo := ⟨(TypeDesc.func #[92] #[41] false), false, 1, 8, [.raw .nilFunc], none, false, false⟩
theorem ti113_ok : TInfoOk Try.prog 113 ti113 := ⟨Try.underlying113, ⟨(.nilFunc), by kernel_rfl, rfl, rfl⟩, rfl, rfl, rfl, fun c h => (by first | (cases h; done) | (obtain rfl := Option.some.inj h; exact ⟨rfl, rfl, rfl⟩)), fun h => (by first | (cases h; done) | exact ⟨by kernel_rfl, by kernel_rfl, by kernel_rfl⟩)⟩
/-- func([]impl.Angle, func(impl.Angle, impl.Angle) int) -/
def ti114 : TInfo := ⟨(TypeDesc.func #[41, 94] #[] false), false, 1, 8, [.raw .nilFunc], none, false, false⟩
theorem ti114_ok : TInfoOk Try.prog 114 ti114 := ⟨Try.underlying114, ⟨(.nilFunc), by kernel_rfl, rfl, rfl⟩, rfl, rfl, rfl, fun c h => (by first | (cases h; done) | (obtain rfl := Option.some.inj h; exact ⟨rfl, rfl, rfl⟩)), fun h => (by first | (cases h; done) | exact ⟨by kernel_rfl, by kernel_rfl, by kernel_rfl⟩)⟩
/-- func(impl.Leaf) impl.Leaf -/
def ti115 : TInfo := ⟨(TypeDesc.func #[31] #[31] false), false, 1, 8, [.raw .nilFunc], none, false, false⟩
theorem ti115_ok : TInfoOk Try.prog 115 ti115 := ⟨Try.underlying115, ⟨(.nilFunc), by kernel_rfl, rfl, rfl⟩, rfl, rfl, rfl, fun c h => (by first | (cases h; done) | (obtain rfl := Option.some.inj h; exact ⟨rfl, rfl, rfl⟩)), fun h => (by first | (cases h; done) | exact ⟨by kernel_rfl, by kernel_rfl, by kernel_rfl⟩)⟩
/-- func([]impl.Leaf, impl.Leaf) bool -/
def ti116 : TInfo := ⟨(TypeDesc.func #[26, 31] #[4] false), false, 1, 8, [.raw .nilFunc], none, false, false⟩
theorem ti116_ok : TInfoOk Try.prog 116 ti116 := ⟨Try.underlying116, ⟨(.nilFunc), by kernel_rfl, rfl, rfl⟩, rfl, rfl, rfl, fun c h => (by first | (cases h; done) | (obtain rfl := Option.some.inj h; exact ⟨rfl, rfl, rfl⟩)), fun h => (by first | (cases h; done) | exact ⟨by kernel_rfl, by kernel_rfl, by kernel_rfl⟩)⟩
/-- func() impl.Leaf -/
def ti117 : TInfo := ⟨(TypeDesc.func #[] #[31] false), false, 1, 8, [.raw .nilFunc], none, false, false⟩
theorem ti117_ok : TInfoOk Try.prog 117 ti117 := ⟨Try.underlying117, ⟨(.nilFunc), by kernel_rfl, rfl, rfl⟩, rfl, rfl, rfl, fun c h => (by first | (cases h; done) | (obtain rfl := Option.some.inj h; exact ⟨rfl, rfl, rfl⟩)), fun h => (by first | (cases h; done) | exact ⟨by kernel_rfl, by kernel_rfl, by kernel_rfl⟩)⟩
/-- []int -/
def ti118 : TInfo := ⟨(TypeDesc.slice 3), false, 1, 24, [.raw (.slice none 0 0)], none, false, false⟩
theorem ti118_ok : TInfoOk Try.prog 118 ti118 := ⟨Try.underlying118, ⟨((.slice none 0 0)), by kernel_rfl, rfl, rfl⟩, rfl, rfl, rfl, fun c h => (by first | (cases h; done) | (obtain rfl := Option.some.inj h; exact ⟨rfl, rfl, rfl⟩)), fun h => (by first | (cases h; done) | exact ⟨by kernel_rfl, by kernel_rfl, by kernel_rfl⟩)⟩
/-- func(int64) bool -/
def ti119 : TInfo := ⟨(TypeDesc.func #[2] #[4] false), false, 1, 8, [.raw .nilFunc], none, false, false⟩
theorem ti119_ok : TInfoOk Try.prog 119 ti119 := ⟨Try.underlying119, ⟨(.nilFunc), by kernel_rfl, rfl, rfl⟩, rfl, rfl, rfl, fun c h => (by first | (cases h; done) | (obtain rfl := Option.some.inj h; exact ⟨rfl, rfl, rfl⟩)), fun h => (by first | (cases h; done) | exact ⟨by kernel_rfl, by kernel_rfl, by kernel_rfl⟩)⟩
/-- func([]impl.Angle, iter.Seq[loop.example/g01234/impl.Angle]) []impl.Angle -/
def ti120 : TInfo := ⟨(TypeDesc.func #[41, 92] #[41] false), false, 1, 8, [.raw .nilFunc], none, false, false⟩
theorem ti120_ok : TInfoOk Try.prog 120 ti120 := ⟨Try.underlying120, ⟨(.nilFunc), by kernel_rfl, rfl, rfl⟩, rfl, rfl, rfl, fun c h => (by first | (cases h; done) | (obtain rfl := Option.some.inj h; exact ⟨rfl, rfl, rfl⟩)), fun h => (by first | (cases h; done) | exact ⟨by kernel_rfl, by kernel_rfl, by kernel_rfl⟩)⟩
/-- func([]impl.Angle, int, int, int, func(impl.Angle, impl.Angle) int) -/
def ti121 : TInfo := ⟨(TypeDesc.func #[41, 3, 3, 3, 94] #[] false), false, 1, 8, [.raw .nilFunc], none, false, false⟩
theorem ti121_ok : TInfoOk Try.prog 121 ti121 := ⟨Try.underlying121, ⟨(.nilFunc), by kernel_rfl, rfl, rfl⟩, rfl, rfl, rfl, fun c h => (by first | (cases h; done) | (obtain rfl := Option.some.inj h; exact ⟨rfl, rfl, rfl⟩)), fun h => (by first | (cases h; done) | exact ⟨by kernel_rfl, by kernel_rfl, by kernel_rfl⟩)⟩
/-- func(uint) int -/
def ti122 : TInfo := ⟨(TypeDesc.func #[111] #[3] false), false, 1, 8, [.raw .nilFunc], none, false, false⟩
theorem ti122_ok : TInfoOk Try.prog 122 ti122 := ⟨Try.underlying122, ⟨(.nilFunc), by kernel_rfl, rfl, rfl⟩, rfl, rfl, rfl, fun c h => (by first | (cases h; done) | (obtain rfl := Option.some.inj h; exact ⟨rfl, rfl, rfl⟩)), fun h => (by first | (cases h; done) | exact ⟨by kernel_rfl, by kernel_rfl, by kernel_rfl⟩)⟩
/-- func([]impl.Leaf, impl.Leaf) int -/
def ti123 : TInfo := ⟨(TypeDesc.func #[26, 31] #[3] false), false, 1, 8, [.raw .nilFunc], none, false, false⟩
theorem ti123_ok : TInfoOk Try.prog 123 ti123 := ⟨Try.underlying123, ⟨(.nilFunc), by kernel_rfl, rfl, rfl⟩, rfl, rfl, rfl, fun c h => (by first | (cases h; done) | (obtain rfl := Option.some.inj h; exact ⟨rfl, rfl, rfl⟩)), fun h => (by first | (cases h; done) | exact ⟨by kernel_rfl, by kernel_rfl, by kernel_rfl⟩)⟩
/-- func([]impl.Leaf) -/
def ti124 : TInfo := ⟨(TypeDesc.func #[26] #[] false), false, 1, 8, [.raw .nilFunc], none, false, false⟩
theorem ti124_ok : TInfoOk Try.prog 124 ti124 := ⟨Try.underlying124, ⟨(.nilFunc), by kernel_rfl, rfl, rfl⟩, rfl, rfl, rfl, fun c h => (by first | (cases h; done) | (obtain rfl := Option.some.inj h; exact ⟨rfl, rfl, rfl⟩)), fun h => (by first | (cases h; done) | exact ⟨by kernel_rfl, by kernel_rfl, by kernel_rfl⟩)⟩
/-- func([]impl.Angle, int, int, func(impl.Angle, impl.Angle) int) -/
def ti125 : TInfo := ⟨(TypeDesc.func #[41, 3, 3, 94] #[] false), false, 1, 8, [.raw .nilFunc], none, false, false⟩
theorem ti125_ok : TInfoOk Try.prog 125 ti125 := ⟨Try.underlying125, ⟨(.nilFunc), by kernel_rfl, rfl, rfl⟩, rfl, rfl, rfl, fun c h => (by first | (cases h; done) | (obtain rfl := Option.some.inj h; exact ⟨rfl, rfl, rfl⟩)), fun h => (by first | (cases h; done) | exact ⟨by kernel_rfl, by kernel_rfl, by kernel_rfl⟩)⟩
/-- slices.sortedHint -/
def ti126 : TInfo := ⟨(TypeDesc.int IntKind.i64), false, 1, 8, [.int .i64 0], (some (.int .i64)), false, false⟩
theorem ti126_ok : TInfoOk Try.prog 126 ti126 := ⟨Try.underlying126, ⟨(.int .i64 0), by kernel_rfl, rfl, rfl⟩, rfl, rfl, rfl, fun c h => (by first | (cases h; done) | (obtain rfl := Option.some.inj h; exact ⟨rfl, rfl, rfl⟩)), fun h => (by first | (cases h; done) | exact ⟨by kernel_rfl, by kernel_rfl, by kernel_rfl⟩)⟩
/-- func([]impl.Angle, int, int, func(impl.Angle, impl.Angle) int) (int, slices.sortedHint) -/
def ti128 : TInfo := ⟨(TypeDesc.func #[41, 3, 3, 94] #[3, 126] false), false, 1, 8, [.raw .nilFunc], none, false, false⟩
theorem ti128_ok : TInfoOk Try.prog 128 ti128 := ⟨Try.underlying128, ⟨(.nilFunc), by kernel_rfl, rfl, rfl⟩, rfl, rfl, rfl, fun c h => (by first | (cases h; done) | (obtain rfl := Option.some.inj h; exact ⟨rfl, rfl, rfl⟩)), fun h => (by first | (cases h; done) | exact ⟨by kernel_rfl, by kernel_rfl, by kernel_rfl⟩)⟩
/-- func([]impl.Angle, int, int, func(impl.Angle, impl.Angle) int) bool -/
def ti129 : TInfo := ⟨(TypeDesc.func #[41, 3, 3, 94] #[4] false), false, 1, 8, [.raw .nilFunc], none, false, false⟩
theorem ti129_ok : TInfoOk Try.prog 129 ti129 := ⟨Try.underlying129, ⟨(.nilFunc), by kernel_rfl, rfl, rfl⟩, rfl, rfl, rfl, fun c h => (by first | (cases h; done) | (obtain rfl := Option.some.inj h; exact ⟨rfl, rfl, rfl⟩)), fun h => (by first | (cases h; done) | exact ⟨by kernel_rfl, by kernel_rfl, by kernel_rfl⟩)⟩
/-- func([]impl.Angle, int, int, int, func(impl.Angle, impl.Angle) int) int -/
def ti130 : TInfo := ⟨(TypeDesc.func #[41, 3, 3, 3, 94] #[3] false), false, 1, 8, [.raw .nilFunc], none, false, false⟩
theorem ti130_ok : TInfoOk Try.prog 130 ti130 := ⟨Try.underlying130, ⟨(.nilFunc), by kernel_rfl, rfl, rfl⟩, rfl, rfl, rfl, fun c h => (by first | (cases h; done) | (obtain rfl := Option.some.inj h; exact ⟨rfl, rfl, rfl⟩)), fun h => (by first | (cases h; done) | exact ⟨by kernel_rfl, by kernel_rfl, by kernel_rfl⟩)⟩
/-- func([]impl.Angle, int, int, int, func(impl.Angle, impl.Angle) int) (int, bool) -/
def ti131 : TInfo := ⟨(TypeDesc.func #[41, 3, 3, 3, 94] #[3, 4] false), false, 1, 8, [.raw .nilFunc], none, false, false⟩
theorem ti131_ok : TInfoOk Try.prog 131 ti131 := ⟨Try.underlying131, ⟨(.nilFunc), by kernel_rfl, rfl, rfl⟩, rfl, rfl, rfl, fun c h => (by first | (cases h; done) | (obtain rfl := Option.some.inj h; exact ⟨rfl, rfl, rfl⟩)), fun h => (by first | (cases h; done) | exact ⟨by kernel_rfl, by kernel_rfl, by kernel_rfl⟩)⟩
/-- func(uint32) int -/
def ti132 : TInfo := ⟨(TypeDesc.func #[133] #[3] false), false, 1, 8, [.raw .nilFunc], none, false, false⟩
theorem ti132_ok : TInfoOk Try.prog 132 ti132 := ⟨Try.underlying132, ⟨(.nilFunc), by kernel_rfl, rfl, rfl⟩, rfl, rfl, rfl, fun c h => (by first | (cases h; done) | (obtain rfl := Option.some.inj h; exact ⟨rfl, rfl, rfl⟩)), fun h => (by first | (cases h; done) | exact ⟨by kernel_rfl, by kernel_rfl, by kernel_rfl⟩)⟩
/-- uint32 -/
def ti133 : TInfo := ⟨(TypeDesc.int IntKind.u32), false, 1, 4, [.int .u32 0], (some (.int .u32)), false, false⟩
theorem ti133_ok : TInfoOk Try.prog 133 ti133 := ⟨Try.underlying133, ⟨(.int .u32 0), by kernel_rfl, rfl, rfl⟩, rfl, rfl, rfl, fun c h => (by first | (cases h; done) | (obtain rfl := Option.some.inj h; exact ⟨rfl, rfl, rfl⟩)), fun h => (by first | (cases h; done) | exact ⟨by kernel_rfl, by kernel_rfl, by kernel_rfl⟩)⟩
/-- func(uint64) int -/
def ti134 : TInfo := ⟨(TypeDesc.func #[105] #[3] false), false, 1, 8, [.raw .nilFunc], none, false, false⟩
theorem ti134_ok : TInfoOk Try.prog 134 ti134 := ⟨Try.underlying134, ⟨(.nilFunc), by kernel_rfl, rfl, rfl⟩, rfl, rfl, rfl, fun c h => (by first | (cases h; done) | (obtain rfl := Option.some.inj h; exact ⟨rfl, rfl, rfl⟩)), fun h => (by first | (cases h; done) | exact ⟨by kernel_rfl, by kernel_rfl, by kernel_rfl⟩)⟩
/-- slices.xorshift -/
def ti135 : TInfo := ⟨(TypeDesc.int IntKind.u64), false, 1, 8, [.int .u64 0], (some (.int .u64)), false, false⟩
theorem ti135_ok : TInfoOk Try.prog 135 ti135 := ⟨Try.underlying135, ⟨(.int .u64 0), by kernel_rfl, rfl, rfl⟩, rfl, rfl, rfl, fun c h => (by first | (cases h; done) | (obtain rfl := Option.some.inj h; exact ⟨rfl, rfl, rfl⟩)), fun h => (by first | (cases h; done) | exact ⟨by kernel_rfl, by kernel_rfl, by kernel_rfl⟩)⟩
/-- func(int) uint -/
def ti136 : TInfo := ⟨(TypeDesc.func #[3] #[111] false), false, 1, 8, [.raw .nilFunc], none, false, false⟩
theorem ti136_ok : TInfoOk Try.prog 136 ti136 := ⟨Try.underlying136, ⟨(.nilFunc), by kernel_rfl, rfl, rfl⟩, rfl, rfl, rfl, fun c h => (by first | (cases h; done) | (obtain rfl := Option.some.inj h; exact ⟨rfl, rfl, rfl⟩)), fun h => (by first | (cases h; done) | exact ⟨by kernel_rfl, by kernel_rfl, by kernel_rfl⟩)⟩
/-- func() uint64 -/
def ti137 : TInfo := ⟨(TypeDesc.func #[] #[105] false), false, 1, 8, [.raw .nilFunc], none, false, false⟩
theorem ti137_ok : TInfoOk Try.prog 137 ti137 := ⟨Try.underlying137, ⟨(.nilFunc), by kernel_rfl, rfl, rfl⟩, rfl, rfl, rfl, fun c h => (by first | (cases h; done) | (obtain rfl := Option.some.inj h; exact ⟨rfl, rfl, rfl⟩)), fun h => (by first | (cases h; done) | exact ⟨by kernel_rfl, by kernel_rfl, by kernel_rfl⟩)⟩
/-- func([]impl.Angle, int, *int, func(impl.Angle, impl.Angle) int) int -/
def ti138 : TInfo := ⟨(TypeDesc.func #[41, 3, 139, 94] #[3] false), false, 1, 8, [.raw .nilFunc], none, false, false⟩
theorem ti138_ok : TInfoOk Try.prog 138 ti138 := ⟨Try.underlying138, ⟨(.nilFunc), by kernel_rfl, rfl, rfl⟩, rfl, rfl, rfl, fun c h => (by first | (cases h; done) | (obtain rfl := Option.some.inj h; exact ⟨rfl, rfl, rfl⟩)), fun h => (by first | (cases h; done) | exact ⟨by kernel_rfl, by kernel_rfl, by kernel_rfl⟩)⟩
/-- *int -/
def ti139 : TInfo := ⟨(TypeDesc.pointer 3), false, 1, 8, [.raw (.pointer none)], none, false, false⟩
theorem ti139_ok : TInfoOk Try.prog 139 ti139 := ⟨Try.underlying139, ⟨((.pointer none)), by kernel_rfl, rfl, rfl⟩, rfl, rfl, rfl, fun c h => (by first | (cases h; done) | (obtain rfl := Option.some.inj h; exact ⟨rfl, rfl, rfl⟩)), fun h => (by first | (cases h; done) | exact ⟨by kernel_rfl, by kernel_rfl, by kernel_rfl⟩)⟩
/-- func([]impl.Angle, int, int, int, *int, func(impl.Angle, impl.Angle) int) int -/
def ti140 : TInfo := ⟨(TypeDesc.func #[41, 3, 3, 3, 139, 94] #[3] false), false, 1, 8, [.raw .nilFunc], none, false, false⟩
theorem ti140_ok : TInfoOk Try.prog 140 ti140 := ⟨Try.underlying140, ⟨(.nilFunc), by kernel_rfl, rfl, rfl⟩, rfl, rfl, rfl, fun c h => (by first | (cases h; done) | (obtain rfl := Option.some.inj h; exact ⟨rfl, rfl, rfl⟩)), fun h => (by first | (cases h; done) | exact ⟨by kernel_rfl, by kernel_rfl, by kernel_rfl⟩)⟩
/-- *slices.xorshift -/
def ti141 : TInfo := ⟨(TypeDesc.pointer 135), false, 1, 8, [.raw (.pointer none)], none, false, false⟩
theorem ti141_ok : TInfoOk Try.prog 141 ti141 := ⟨Try.underlying141, ⟨((.pointer none)), by kernel_rfl, rfl, rfl⟩, rfl, rfl, rfl, fun c h => (by first | (cases h; done) | (obtain rfl := Option.some.inj h; exact ⟨rfl, rfl, rfl⟩)), fun h => (by first | (cases h; done) | exact ⟨by kernel_rfl, by kernel_rfl, by kernel_rfl⟩)⟩
/-- func([]impl.Angle, int, int, *int, func(impl.Angle, impl.Angle) int) (int, int) -/
def ti143 : TInfo := ⟨(TypeDesc.func #[41, 3, 3, 139, 94] #[3, 3] false), false, 1, 8, [.raw .nilFunc], none, false, false⟩
theorem ti143_ok : TInfoOk Try.prog 143 ti143 := ⟨Try.underlying143, ⟨(.nilFunc), by kernel_rfl, rfl, rfl⟩, rfl, rfl, rfl, fun c h => (by first | (cases h; done) | (obtain rfl := Option.some.inj h; exact ⟨rfl, rfl, rfl⟩)), fun h => (by first | (cases h; done) | exact ⟨by kernel_rfl, by kernel_rfl, by kernel_rfl⟩)⟩
/-- func() string -/
def ti144 : TInfo := ⟨(TypeDesc.func #[] #[9] false), false, 1, 8, [.raw .nilFunc], none, false, false⟩
theorem ti144_ok : TInfoOk Try.prog 144 ti144 := ⟨Try.underlying144, ⟨(.nilFunc), by kernel_rfl, rfl, rfl⟩, rfl, rfl, rfl, fun c h => (by first | (cases h; done) | (obtain rfl := Option.some.inj h; exact ⟨rfl, rfl, rfl⟩)), fun h => (by first | (cases h; done) | exact ⟨by kernel_rfl, by kernel_rfl, by kernel_rfl⟩)⟩
/-- func() int -/
def ti150 : TInfo := ⟨(TypeDesc.func #[] #[3] false), false, 1, 8, [.raw .nilFunc], none, false, false⟩
theorem ti150_ok : TInfoOk Try.prog 150 ti150 := ⟨Try.underlying150, ⟨(.nilFunc), by kernel_rfl, rfl, rfl⟩, rfl, rfl, rfl, fun c h => (by first | (cases h; done) | (obtain rfl := Option.some.inj h; exact ⟨rfl, rfl, rfl⟩)), fun h => (by first | (cases h; done) | exact ⟨by kernel_rfl, by kernel_rfl, by kernel_rfl⟩)⟩
/-- *uint8 -/
def ti154 : TInfo := ⟨(TypeDesc.pointer 5), false, 1, 8, [.raw (.pointer none)], none, false, false⟩
theorem ti154_ok : TInfoOk Try.prog 154 ti154 := ⟨Try.underlying154, ⟨((.pointer none)), by kernel_rfl, rfl, rfl⟩, rfl, rfl, rfl, fun c h => (by first | (cases h; done) | (obtain rfl := Option.some.inj h; exact ⟨rfl, rfl, rfl⟩)), fun h => (by first | (cases h; done) | exact ⟨by kernel_rfl, by kernel_rfl, by kernel_rfl⟩)⟩
def TL : List (TypeId × TInfo) := [(1, ti1), (2, ti2), (3, ti3), (4, ti4), (5, ti5), (9, ti9), (21, ti21), (22, ti22), (23, ti23), (24, ti24), (25, ti25), (26, ti26), (28, ti28), (29, ti29), (30, ti30), (31, ti31), (32, ti32), (33, ti33), (34, ti34), (35, ti35), (36, ti36), (37, ti37), (38, ti38), (39, ti39), (40, ti40), (41, ti41), (43, ti43), (44, ti44), (45, ti45), (46, ti46), (47, ti47), (48, ti48), (49, ti49), (50, ti50), (51, ti51), (52, ti52), (54, ti54), (55, ti55), (56, ti56), (57, ti57), (58, ti58), (59, ti59), (60, ti60), (61, ti61), (62, ti62), (63, ti63), (64, ti64), (65, ti65), (66, ti66), (68, ti68), (70, ti70), (72, ti72), (73, ti73), (74, ti74), (75, ti75), (76, ti76), (78, ti78), (79, ti79), (80, ti80), (81, ti81), (82, ti82), (83, ti83), (84, ti84), (86, ti86), (87, ti87), (88, ti88), (89, ti89), (90, ti90), (91, ti91), (92, ti92), (93, ti93), (94, ti94), (95, ti95), (97, ti97), (98, ti98), (99, ti99), (100, ti100), (101, ti101), (102, ti102), (104, ti104), (105, ti105), (107, ti107), (108, ti108), (109, ti109), (110, ti110), (111, ti111), (112, ti112), (113, ti113), (114, ti114), (115, ti115), (116, ti116), (117, ti117), (118, ti118), (119, ti119), (120, ti120), (121, ti121), (122, ti122), (123, ti123), (124, ti124), (125, ti125), (126, ti126), (128, ti128), (129, ti129), (130, ti130), (131, ti131), (132, ti132), (133, ti133), (134, ti134), (135, ti135), (136, ti136), (137, ti137), (138, ti138), (139, ti139), (140, ti140), (141, ti141), (143, ti143), (144, ti144), (150, ti150), (154, ti154)]
def ti64w : TInfo := { ti2 with wf := true }
theorem ti64w_ok : TInfoOk Try.prog 2 ti64w := ⟨ti2_ok.und, ti2_ok.info, ti2_ok.agg, ti2_ok.flat, ti2_ok.zlen, ti2_ok.ty, ti2_ok.eqOk⟩
def TLW : List (TypeId × TInfo) := [(1, ti1), (2, ti64w), (3, ti3), (4, ti4), (5, ti5), (9, ti9), (21, ti21), (22, ti22), (23, ti23), (24, ti24), (25, ti25), (26, ti26), (28, ti28), (29, ti29), (30, ti30), (31, ti31), (32, ti32), (33, ti33), (34, ti34), (35, ti35), (36, ti36), (37, ti37), (38, ti38), (39, ti39), (40, ti40), (41, ti41), (43, ti43), (44, ti44), (45, ti45), (46, ti46), (47, ti47), (48, ti48), (49, ti49), (50, ti50), (51, ti51), (52, ti52), (54, ti54), (55, ti55), (56, ti56), (57, ti57), (58, ti58), (59, ti59), (60, ti60), (61, ti61), (62, ti62), (63, ti63), (64, ti64), (65, ti65), (66, ti66), (68, ti68), (70, ti70), (72, ti72), (73, ti73), (74, ti74), (75, ti75), (76, ti76), (78, ti78), (79, ti79), (80, ti80), (81, ti81), (82, ti82), (83, ti83), (84, ti84), (86, ti86), (87, ti87), (88, ti88), (89, ti89), (90, ti90), (91, ti91), (92, ti92), (93, ti93), (94, ti94), (95, ti95), (97, ti97), (98, ti98), (99, ti99), (100, ti100), (101, ti101), (102, ti102), (104, ti104), (105, ti105), (107, ti107), (108, ti108), (109, ti109), (110, ti110), (111, ti111), (112, ti112), (113, ti113), (114, ti114), (115, ti115), (116, ti116), (117, ti117), (118, ti118), (119, ti119), (120, ti120), (121, ti121), (122, ti122), (123, ti123), (124, ti124), (125, ti125), (126, ti126), (128, ti128), (129, ti129), (130, ti130), (131, ti131), (132, ti132), (133, ti133), (134, ti134), (135, ti135), (136, ti136), (137, ti137), (138, ti138), (139, ti139), (140, ti140), (141, ti141), (143, ti143), (144, ti144), (150, ti150), (154, ti154)]
def TW : TypeId → Option TInfo := lookT TLW
theorem T_okW : TOk Try.prog TW := TOk.list (by
  intro p hp
  simp only [TLW, List.mem_cons, List.not_mem_nil, or_false] at hp
  rcases hp with rfl | rfl | rfl | rfl | rfl | rfl | rfl | rfl | rfl | rfl | rfl | rfl | rfl | rfl | rfl | rfl | rfl | rfl | rfl | rfl | rfl | rfl | rfl | rfl | rfl | rfl | rfl | rfl | rfl | rfl | rfl | rfl | rfl | rfl | rfl | rfl | rfl | rfl | rfl | rfl | rfl | rfl | rfl | rfl | rfl | rfl | rfl | rfl | rfl | rfl | rfl | rfl | rfl | rfl | rfl | rfl | rfl | rfl | rfl | rfl | rfl | rfl | rfl | rfl | rfl | rfl | rfl | rfl | rfl | rfl | rfl | rfl | rfl | rfl | rfl | rfl | rfl | rfl | rfl | rfl | rfl | rfl | rfl | rfl | rfl | rfl | rfl | rfl | rfl | rfl | rfl | rfl | rfl | rfl | rfl | rfl | rfl | rfl | rfl | rfl | rfl | rfl | rfl | rfl | rfl | rfl | rfl | rfl | rfl | rfl | rfl | rfl | rfl | rfl | rfl | rfl | rfl | rfl | rfl
  · exact ti1_ok
  · exact ti64w_ok
  · exact ti3_ok
  · exact ti4_ok
  · exact ti5_ok
  · exact ti9_ok
  · exact ti21_ok
  · exact ti22_ok
  · exact ti23_ok
  · exact ti24_ok
  · exact ti25_ok
  · exact ti26_ok
  · exact ti28_ok
  · exact ti29_ok
  · exact ti30_ok
  · exact ti31_ok
  · exact ti32_ok
  · exact ti33_ok
  · exact ti34_ok
  · exact ti35_ok
  · exact ti36_ok
  · exact ti37_ok
  · exact ti38_ok
  · exact ti39_ok
  · exact ti40_ok
  · exact ti41_ok
  · exact ti43_ok
  · exact ti44_ok
  · exact ti45_ok
  · exact ti46_ok
  · exact ti47_ok
  · exact ti48_ok
  · exact ti49_ok
  · exact ti50_ok
  · exact ti51_ok
  · exact ti52_ok
  · exact ti54_ok
  · exact ti55_ok
  · exact ti56_ok
  · exact ti57_ok
  · exact ti58_ok
  · exact ti59_ok
  · exact ti60_ok
  · exact ti61_ok
  · exact ti62_ok
  · exact ti63_ok
  · exact ti64_ok
  · exact ti65_ok
  · exact ti66_ok
  · exact ti68_ok
  · exact ti70_ok
  · exact ti72_ok
  · exact ti73_ok
  · exact ti74_ok
  · exact ti75_ok
  · exact ti76_ok
  · exact ti78_ok
  · exact ti79_ok
  · exact ti80_ok
  · exact ti81_ok
  · exact ti82_ok
  · exact ti83_ok
  · exact ti84_ok
  · exact ti86_ok
  · exact ti87_ok
  · exact ti88_ok
  · exact ti89_ok
  · exact ti90_ok
  · exact ti91_ok
  · exact ti92_ok
  · exact ti93_ok
  · exact ti94_ok
  · exact ti95_ok
  · exact ti97_ok
  · exact ti98_ok
  · exact ti99_ok
  · exact ti100_ok
  · exact ti101_ok
  · exact ti102_ok
  · exact ti104_ok
  · exact ti105_ok
  · exact ti107_ok
  · exact ti108_ok
  · exact ti109_ok
  · exact ti110_ok
  · exact ti111_ok
  · exact ti112_ok
  · exact ti113_ok
  · exact ti114_ok
  · exact ti115_ok
  · exact ti116_ok
  · exact ti117_ok
  · exact ti118_ok
  · exact ti119_ok
  · exact ti120_ok
  · exact ti121_ok
  · exact ti122_ok
  · exact ti123_ok
  · exact ti124_ok
  · exact ti125_ok
  · exact ti126_ok
  · exact ti128_ok
  · exact ti129_ok
  · exact ti130_ok
  · exact ti131_ok
  · exact ti132_ok
  · exact ti133_ok
  · exact ti134_ok
  · exact ti135_ok
  · exact ti136_ok
  · exact ti137_ok
  · exact ti138_ok
  · exact ti139_ok
  · exact ti140_ok
  · exact ti141_ok
  · exact ti143_ok
  · exact ti144_ok
  · exact ti150_ok
  · exact ti154_ok)
def T : TypeId → Option TInfo := lookT TL
theorem T_ok : TOk Try.prog T := TOk.list (by
  intro p hp
  simp only [TL, List.mem_cons, List.not_mem_nil, or_false] at hp
  rcases hp with rfl | rfl | rfl | rfl | rfl | rfl | rfl | rfl | rfl | rfl | rfl | rfl | rfl | rfl | rfl | rfl | rfl | rfl | rfl | rfl | rfl | rfl | rfl | rfl | rfl | rfl | rfl | rfl | rfl | rfl | rfl | rfl | rfl | rfl | rfl | rfl | rfl | rfl | rfl | rfl | rfl | rfl | rfl | rfl | rfl | rfl | rfl | rfl | rfl | rfl | rfl | rfl | rfl | rfl | rfl | rfl | rfl | rfl | rfl | rfl | rfl | rfl | rfl | rfl | rfl | rfl | rfl | rfl | rfl | rfl | rfl | rfl | rfl | rfl | rfl | rfl | rfl | rfl | rfl | rfl | rfl | rfl | rfl | rfl | rfl | rfl | rfl | rfl | rfl | rfl | rfl | rfl | rfl | rfl | rfl | rfl | rfl | rfl | rfl | rfl | rfl | rfl | rfl | rfl | rfl | rfl | rfl | rfl | rfl | rfl | rfl | rfl | rfl | rfl | rfl | rfl | rfl | rfl | rfl
  · exact ti1_ok
  · exact ti2_ok
  · exact ti3_ok
  · exact ti4_ok
  · exact ti5_ok
  · exact ti9_ok
  · exact ti21_ok
  · exact ti22_ok
  · exact ti23_ok
  · exact ti24_ok
  · exact ti25_ok
  · exact ti26_ok
  · exact ti28_ok
  · exact ti29_ok
  · exact ti30_ok
  · exact ti31_ok
  · exact ti32_ok
  · exact ti33_ok
  · exact ti34_ok
  · exact ti35_ok
  · exact ti36_ok
  · exact ti37_ok
  · exact ti38_ok
  · exact ti39_ok
  · exact ti40_ok
  · exact ti41_ok
  · exact ti43_ok
  · exact ti44_ok
  · exact ti45_ok
  · exact ti46_ok
  · exact ti47_ok
  · exact ti48_ok
  · exact ti49_ok
  · exact ti50_ok
  · exact ti51_ok
  · exact ti52_ok
  · exact ti54_ok
  · exact ti55_ok
  · exact ti56_ok
  · exact ti57_ok
  · exact ti58_ok
  · exact ti59_ok
  · exact ti60_ok
  · exact ti61_ok
  · exact ti62_ok
  · exact ti63_ok
  · exact ti64_ok
  · exact ti65_ok
  · exact ti66_ok
  · exact ti68_ok
  · exact ti70_ok
  · exact ti72_ok
  · exact ti73_ok
  · exact ti74_ok
  · exact ti75_ok
  · exact ti76_ok
  · exact ti78_ok
  · exact ti79_ok
  · exact ti80_ok
  · exact ti81_ok
  · exact ti82_ok
  · exact ti83_ok
  · exact ti84_ok
  · exact ti86_ok
  · exact ti87_ok
  · exact ti88_ok
  · exact ti89_ok
  · exact ti90_ok
  · exact ti91_ok
  · exact ti92_ok
  · exact ti93_ok
  · exact ti94_ok
  · exact ti95_ok
  · exact ti97_ok
  · exact ti98_ok
  · exact ti99_ok
  · exact ti100_ok
  · exact ti101_ok
  · exact ti102_ok
  · exact ti104_ok
  · exact ti105_ok
  · exact ti107_ok
  · exact ti108_ok
  · exact ti109_ok
  · exact ti110_ok
  · exact ti111_ok
  · exact ti112_ok
  · exact ti113_ok
  · exact ti114_ok
  · exact ti115_ok
  · exact ti116_ok
  · exact ti117_ok
  · exact ti118_ok
  · exact ti119_ok
  · exact ti120_ok
  · exact ti121_ok
  · exact ti122_ok
  · exact ti123_ok
  · exact ti124_ok
  · exact ti125_ok
  · exact ti126_ok
  · exact ti128_ok
  · exact ti129_ok
  · exact ti130_ok
  · exact ti131_ok
  · exact ti132_ok
  · exact ti133_ok
  · exact ti134_ok
  · exact ti135_ok
  · exact ti136_ok
  · exact ti137_ok
  · exact ti138_ok
  · exact ti139_ok
  · exact ti140_ok
  · exact ti141_ok
  · exact ti143_ok
  · exact ti144_ok
  · exact ti150_ok
  · exact ti154_ok)
end Go.Proofs.Ytllagpbbbdekiaa.Fw
