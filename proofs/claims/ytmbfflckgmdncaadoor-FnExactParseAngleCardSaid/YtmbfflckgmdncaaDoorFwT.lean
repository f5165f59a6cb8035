/- What is known of the data types of this seat's program. Written by a program of this session (gen_types.py) out of Lean's own print of the program's types. -/
import Derived.Test.YtmbfflckgmdncaaDoorGA
import Derived.Test.YtmbfflckgmdncaaDoorProg
namespace Go.Proofs.YtmbfflckgmdncaaDoor.Fw
open Go
set_option maxRecDepth 100000

/-- func() -/
def ti1 : TInfo := ⟨(TypeDesc.func #[] #[] false), false, 1, 8, [.raw .nilFunc], none, false, false⟩
theorem ti1_ok : TInfoOk Tryd.prog 1 ti1 := ⟨Tryd.underlying1, ⟨(.nilFunc), by kernel_rfl, rfl, rfl⟩, rfl, rfl, rfl, fun c h => (by first | (cases h; done) | (obtain rfl := Option.some.inj h; exact ⟨rfl, rfl, rfl⟩)), fun h => (by first | (cases h; done) | exact ⟨by kernel_rfl, by kernel_rfl, by kernel_rfl⟩)⟩
/-- int64 -/
def ti2 : TInfo := ⟨(TypeDesc.int IntKind.i64), false, 1, 8, [.int .i64 0], (some (.int .i64)), false, false⟩
theorem ti2_ok : TInfoOk Tryd.prog 2 ti2 := ⟨Tryd.underlying2, ⟨(.int .i64 0), by kernel_rfl, rfl, rfl⟩, rfl, rfl, rfl, fun c h => (by first | (cases h; done) | (obtain rfl := Option.some.inj h; exact ⟨rfl, rfl, rfl⟩)), fun h => (by first | (cases h; done) | exact ⟨by kernel_rfl, by kernel_rfl, by kernel_rfl⟩)⟩
/-- int -/
def ti3 : TInfo := ⟨(TypeDesc.int IntKind.i64), false, 1, 8, [.int .i64 0], (some (.int .i64)), false, false⟩
theorem ti3_ok : TInfoOk Tryd.prog 3 ti3 := ⟨Tryd.underlying3, ⟨(.int .i64 0), by kernel_rfl, rfl, rfl⟩, rfl, rfl, rfl, fun c h => (by first | (cases h; done) | (obtain rfl := Option.some.inj h; exact ⟨rfl, rfl, rfl⟩)), fun h => (by first | (cases h; done) | exact ⟨by kernel_rfl, by kernel_rfl, by kernel_rfl⟩)⟩
/-- bool -/
def ti4 : TInfo := ⟨TypeDesc.bool, false, 1, 1, [.bool false], (some (.bool)), false, false⟩
theorem ti4_ok : TInfoOk Tryd.prog 4 ti4 := ⟨Tryd.underlying4, ⟨(.bool false), by kernel_rfl, rfl, rfl⟩, rfl, rfl, rfl, fun c h => (by first | (cases h; done) | (obtain rfl := Option.some.inj h; exact ⟨rfl, rfl, rfl⟩)), fun h => (by first | (cases h; done) | exact ⟨by kernel_rfl, by kernel_rfl, by kernel_rfl⟩)⟩
/-- uint8 -/
def ti5 : TInfo := ⟨(TypeDesc.int IntKind.u8), false, 1, 1, [.int .u8 0], (some (.int .u8)), false, false⟩
theorem ti5_ok : TInfoOk Tryd.prog 5 ti5 := ⟨Tryd.underlying5, ⟨(.int .u8 0), by kernel_rfl, rfl, rfl⟩, rfl, rfl, rfl, fun c h => (by first | (cases h; done) | (obtain rfl := Option.some.inj h; exact ⟨rfl, rfl, rfl⟩)), fun h => (by first | (cases h; done) | exact ⟨by kernel_rfl, by kernel_rfl, by kernel_rfl⟩)⟩
/-- string -/
def ti9 : TInfo := ⟨TypeDesc.string, false, 1, 16, [.str ByteArray.empty], (some (.str)), false, false⟩
theorem ti9_ok : TInfoOk Tryd.prog 9 ti9 := ⟨Tryd.underlying9, ⟨(.string ByteArray.empty), by kernel_rfl, rfl, rfl⟩, rfl, rfl, rfl, fun c h => (by first | (cases h; done) | (obtain rfl := Option.some.inj h; exact ⟨rfl, rfl, rfl⟩)), fun h => (by first | (cases h; done) | exact ⟨by kernel_rfl, by kernel_rfl, by kernel_rfl⟩)⟩
/-- int32 -/
def ti21 : TInfo := ⟨(TypeDesc.int IntKind.i32), false, 1, 4, [.int .i32 0], (some (.int .i32)), false, false⟩
theorem ti21_ok : TInfoOk Tryd.prog 21 ti21 := ⟨Tryd.underlying21, ⟨(.int .i32 0), by kernel_rfl, rfl, rfl⟩, rfl, rfl, rfl, fun c h => (by first | (cases h; done) | (obtain rfl := Option.some.inj h; exact ⟨rfl, rfl, rfl⟩)), fun h => (by first | (cases h; done) | exact ⟨by kernel_rfl, by kernel_rfl, by kernel_rfl⟩)⟩
/-- struct { Num int64; Den int64 } -/
def ti22 : TInfo := ⟨(TypeDesc.struct #[{ name := "Num", type := 2, offset := 0, embedded := false, tag := "", pkgPath := "", byteOffset := 0 }, { name := "Den", type := 2, offset := 1, embedded := false, tag := "", pkgPath := "", byteOffset := 8 }]), true, 2, 16, [.int .i64 0, .int .i64 0], (some (.pair (.int .i64) (.int .i64))), true, false⟩
theorem ti22_ok : TInfoOk Tryd.prog 22 ti22 := ⟨Tryd.underlying22, ⟨(.agg #[.int .i64 0, .int .i64 0]), by kernel_rfl, rfl, rfl⟩, rfl, rfl, rfl, fun c h => (by first | (cases h; done) | (obtain rfl := Option.some.inj h; exact ⟨rfl, rfl, rfl⟩)), fun h => (by first | (cases h; done) | exact ⟨by kernel_rfl, by kernel_rfl, by kernel_rfl⟩)⟩
/-- laws.Angle = loop.example/g01234/laws.Angle -/
def ti23 : TInfo := ⟨(TypeDesc.struct #[{ name := "Num", type := 2, offset := 0, embedded := false, tag := "", pkgPath := "", byteOffset := 0 }, { name := "Den", type := 2, offset := 1, embedded := false, tag := "", pkgPath := "", byteOffset := 8 }]), true, 2, 16, [.int .i64 0, .int .i64 0], (some (.pair (.int .i64) (.int .i64))), true, false⟩
theorem ti23_ok : TInfoOk Tryd.prog 23 ti23 := ⟨Tryd.underlying23, ⟨(.agg #[.int .i64 0, .int .i64 0]), by kernel_rfl, rfl, rfl⟩, rfl, rfl, rfl, fun c h => (by first | (cases h; done) | (obtain rfl := Option.some.inj h; exact ⟨rfl, rfl, rfl⟩)), fun h => (by first | (cases h; done) | exact ⟨by kernel_rfl, by kernel_rfl, by kernel_rfl⟩)⟩
/-- func(impl.Angle) (string, int64) -/
def ti25 : TInfo := ⟨(TypeDesc.func #[26] #[9, 2] false), false, 1, 8, [.raw .nilFunc], none, false, false⟩
theorem ti25_ok : TInfoOk Tryd.prog 25 ti25 := ⟨Tryd.underlying25, ⟨(.nilFunc), by kernel_rfl, rfl, rfl⟩, rfl, rfl, rfl, fun c h => (by first | (cases h; done) | (obtain rfl := Option.some.inj h; exact ⟨rfl, rfl, rfl⟩)), fun h => (by first | (cases h; done) | exact ⟨by kernel_rfl, by kernel_rfl, by kernel_rfl⟩)⟩
/-- impl.Angle = loop.example/g01234/impl.Angle -/
def ti26 : TInfo := ⟨(TypeDesc.struct #[{ name := "Num", type := 2, offset := 0, embedded := false, tag := "", pkgPath := "", byteOffset := 0 }, { name := "Den", type := 2, offset := 1, embedded := false, tag := "", pkgPath := "", byteOffset := 8 }]), true, 2, 16, [.int .i64 0, .int .i64 0], (some (.pair (.int .i64) (.int .i64))), true, false⟩
theorem ti26_ok : TInfoOk Tryd.prog 26 ti26 := ⟨Tryd.underlying26, ⟨(.agg #[.int .i64 0, .int .i64 0]), by kernel_rfl, rfl, rfl⟩, rfl, rfl, rfl, fun c h => (by first | (cases h; done) | (obtain rfl := Option.some.inj h; exact ⟨rfl, rfl, rfl⟩)), fun h => (by first | (cases h; done) | exact ⟨by kernel_rfl, by kernel_rfl, by kernel_rfl⟩)⟩
/-- func(laws.Angle) impl.Angle -/
def ti27 : TInfo := ⟨(TypeDesc.func #[23] #[26] false), false, 1, 8, [.raw .nilFunc], none, false, false⟩
theorem ti27_ok : TInfoOk Tryd.prog 27 ti27 := ⟨Tryd.underlying27, ⟨(.nilFunc), by kernel_rfl, rfl, rfl⟩, rfl, rfl, rfl, fun c h => (by first | (cases h; done) | (obtain rfl := Option.some.inj h; exact ⟨rfl, rfl, rfl⟩)), fun h => (by first | (cases h; done) | exact ⟨by kernel_rfl, by kernel_rfl, by kernel_rfl⟩)⟩
/-- func(laws.Angle) bool -/
def ti28 : TInfo := ⟨(TypeDesc.func #[23] #[4] false), false, 1, 8, [.raw .nilFunc], none, false, false⟩
theorem ti28_ok : TInfoOk Tryd.prog 28 ti28 := ⟨Tryd.underlying28, ⟨(.nilFunc), by kernel_rfl, rfl, rfl⟩, rfl, rfl, rfl, fun c h => (by first | (cases h; done) | (obtain rfl := Option.some.inj h; exact ⟨rfl, rfl, rfl⟩)), fun h => (by first | (cases h; done) | exact ⟨by kernel_rfl, by kernel_rfl, by kernel_rfl⟩)⟩
/-- func(string) (impl.Angle, int64) -/
def ti30 : TInfo := ⟨(TypeDesc.func #[9] #[26, 2] false), false, 1, 8, [.raw .nilFunc], none, false, false⟩
theorem ti30_ok : TInfoOk Tryd.prog 30 ti30 := ⟨Tryd.underlying30, ⟨(.nilFunc), by kernel_rfl, rfl, rfl⟩, rfl, rfl, rfl, fun c h => (by first | (cases h; done) | (obtain rfl := Option.some.inj h; exact ⟨rfl, rfl, rfl⟩)), fun h => (by first | (cases h; done) | exact ⟨by kernel_rfl, by kernel_rfl, by kernel_rfl⟩)⟩
/-- func(impl.Angle, impl.Angle) bool -/
def ti31 : TInfo := ⟨(TypeDesc.func #[26, 26] #[4] false), false, 1, 8, [.raw .nilFunc], none, false, false⟩
theorem ti31_ok : TInfoOk Tryd.prog 31 ti31 := ⟨Tryd.underlying31, ⟨(.nilFunc), by kernel_rfl, rfl, rfl⟩, rfl, rfl, rfl, fun c h => (by first | (cases h; done) | (obtain rfl := Option.some.inj h; exact ⟨rfl, rfl, rfl⟩)), fun h => (by first | (cases h; done) | exact ⟨by kernel_rfl, by kernel_rfl, by kernel_rfl⟩)⟩
/-- func(string) bool -/
def ti32 : TInfo := ⟨(TypeDesc.func #[9] #[4] false), false, 1, 8, [.raw .nilFunc], none, false, false⟩
theorem ti32_ok : TInfoOk Tryd.prog 32 ti32 := ⟨Tryd.underlying32, ⟨(.nilFunc), by kernel_rfl, rfl, rfl⟩, rfl, rfl, rfl, fun c h => (by first | (cases h; done) | (obtain rfl := Option.some.inj h; exact ⟨rfl, rfl, rfl⟩)), fun h => (by first | (cases h; done) | exact ⟨by kernel_rfl, by kernel_rfl, by kernel_rfl⟩)⟩
/-- func(impl.Angle) bool -/
def ti33 : TInfo := ⟨(TypeDesc.func #[26] #[4] false), false, 1, 8, [.raw .nilFunc], none, false, false⟩
theorem ti33_ok : TInfoOk Tryd.prog 33 ti33 := ⟨Tryd.underlying33, ⟨(.nilFunc), by kernel_rfl, rfl, rfl⟩, rfl, rfl, rfl, fun c h => (by first | (cases h; done) | (obtain rfl := Option.some.inj h; exact ⟨rfl, rfl, rfl⟩)), fun h => (by first | (cases h; done) | exact ⟨by kernel_rfl, by kernel_rfl, by kernel_rfl⟩)⟩
/-- func(impl.Angle) string -/
def ti34 : TInfo := ⟨(TypeDesc.func #[26] #[9] false), false, 1, 8, [.raw .nilFunc], none, false, false⟩
theorem ti34_ok : TInfoOk Tryd.prog 34 ti34 := ⟨Tryd.underlying34, ⟨(.nilFunc), by kernel_rfl, rfl, rfl⟩, rfl, rfl, rfl, fun c h => (by first | (cases h; done) | (obtain rfl := Option.some.inj h; exact ⟨rfl, rfl, rfl⟩)), fun h => (by first | (cases h; done) | exact ⟨by kernel_rfl, by kernel_rfl, by kernel_rfl⟩)⟩
/-- func(...impl.Angle) int64 -/
def ti35 : TInfo := ⟨(TypeDesc.func #[45] #[2] true), false, 1, 8, [.raw .nilFunc], none, false, false⟩
theorem ti35_ok : TInfoOk Tryd.prog 35 ti35 := ⟨Tryd.underlying35, ⟨(.nilFunc), by kernel_rfl, rfl, rfl⟩, rfl, rfl, rfl, fun c h => (by first | (cases h; done) | (obtain rfl := Option.some.inj h; exact ⟨rfl, rfl, rfl⟩)), fun h => (by first | (cases h; done) | exact ⟨by kernel_rfl, by kernel_rfl, by kernel_rfl⟩)⟩
/-- func() string -/
def ti36 : TInfo := ⟨(TypeDesc.func #[] #[9] false), false, 1, 8, [.raw .nilFunc], none, false, false⟩
theorem ti36_ok : TInfoOk Tryd.prog 36 ti36 := ⟨Tryd.underlying36, ⟨(.nilFunc), by kernel_rfl, rfl, rfl⟩, rfl, rfl, rfl, fun c h => (by first | (cases h; done) | (obtain rfl := Option.some.inj h; exact ⟨rfl, rfl, rfl⟩)), fun h => (by first | (cases h; done) | exact ⟨by kernel_rfl, by kernel_rfl, by kernel_rfl⟩)⟩
/-- func(string) (impl.Angle, bool) -/
def ti38 : TInfo := ⟨(TypeDesc.func #[9] #[26, 4] false), false, 1, 8, [.raw .nilFunc], none, false, false⟩
theorem ti38_ok : TInfoOk Tryd.prog 38 ti38 := ⟨Tryd.underlying38, ⟨(.nilFunc), by kernel_rfl, rfl, rfl⟩, rfl, rfl, rfl, fun c h => (by first | (cases h; done) | (obtain rfl := Option.some.inj h; exact ⟨rfl, rfl, rfl⟩)), fun h => (by first | (cases h; done) | exact ⟨by kernel_rfl, by kernel_rfl, by kernel_rfl⟩)⟩
/-- func(string, string) (string, string, bool) -/
def ti40 : TInfo := ⟨(TypeDesc.func #[9, 9] #[9, 9, 4] false), false, 1, 8, [.raw .nilFunc], none, false, false⟩
theorem ti40_ok : TInfoOk Tryd.prog 40 ti40 := ⟨Tryd.underlying40, ⟨(.nilFunc), by kernel_rfl, rfl, rfl⟩, rfl, rfl, rfl, fun c h => (by first | (cases h; done) | (obtain rfl := Option.some.inj h; exact ⟨rfl, rfl, rfl⟩)), fun h => (by first | (cases h; done) | exact ⟨by kernel_rfl, by kernel_rfl, by kernel_rfl⟩)⟩
/-- func(string) int64 -/
def ti41 : TInfo := ⟨(TypeDesc.func #[9] #[2] false), false, 1, 8, [.raw .nilFunc], none, false, false⟩
theorem ti41_ok : TInfoOk Tryd.prog 41 ti41 := ⟨Tryd.underlying41, ⟨(.nilFunc), by kernel_rfl, rfl, rfl⟩, rfl, rfl, rfl, fun c h => (by first | (cases h; done) | (obtain rfl := Option.some.inj h; exact ⟨rfl, rfl, rfl⟩)), fun h => (by first | (cases h; done) | exact ⟨by kernel_rfl, by kernel_rfl, by kernel_rfl⟩)⟩
/-- func(int64, int64, int64) bool -/
def ti42 : TInfo := ⟨(TypeDesc.func #[2, 2, 2] #[4] false), false, 1, 8, [.raw .nilFunc], none, false, false⟩
theorem ti42_ok : TInfoOk Tryd.prog 42 ti42 := ⟨Tryd.underlying42, ⟨(.nilFunc), by kernel_rfl, rfl, rfl⟩, rfl, rfl, rfl, fun c h => (by first | (cases h; done) | (obtain rfl := Option.some.inj h; exact ⟨rfl, rfl, rfl⟩)), fun h => (by first | (cases h; done) | exact ⟨by kernel_rfl, by kernel_rfl, by kernel_rfl⟩)⟩
/-- func(int64, int64) int64 -/
def ti43 : TInfo := ⟨(TypeDesc.func #[2, 2] #[2] false), false, 1, 8, [.raw .nilFunc], none, false, false⟩
theorem ti43_ok : TInfoOk Tryd.prog 43 ti43 := ⟨Tryd.underlying43, ⟨(.nilFunc), by kernel_rfl, rfl, rfl⟩, rfl, rfl, rfl, fun c h => (by first | (cases h; done) | (obtain rfl := Option.some.inj h; exact ⟨rfl, rfl, rfl⟩)), fun h => (by first | (cases h; done) | exact ⟨by kernel_rfl, by kernel_rfl, by kernel_rfl⟩)⟩
/-- func(int64) string -/
def ti44 : TInfo := ⟨(TypeDesc.func #[2] #[9] false), false, 1, 8, [.raw .nilFunc], none, false, false⟩
theorem ti44_ok : TInfoOk Tryd.prog 44 ti44 := ⟨Tryd.underlying44, ⟨(.nilFunc), by kernel_rfl, rfl, rfl⟩, rfl, rfl, rfl, fun c h => (by first | (cases h; done) | (obtain rfl := Option.some.inj h; exact ⟨rfl, rfl, rfl⟩)), fun h => (by first | (cases h; done) | exact ⟨by kernel_rfl, by kernel_rfl, by kernel_rfl⟩)⟩
/-- []impl.Angle -/
def ti45 : TInfo := ⟨(TypeDesc.slice 26), false, 1, 24, [.raw (.slice none 0 0)], none, false, false⟩
theorem ti45_ok : TInfoOk Tryd.prog 45 ti45 := ⟨Tryd.underlying45, ⟨((.slice none 0 0)), by kernel_rfl, rfl, rfl⟩, rfl, rfl, rfl, fun c h => (by first | (cases h; done) | (obtain rfl := Option.some.inj h; exact ⟨rfl, rfl, rfl⟩)), fun h => (by first | (cases h; done) | exact ⟨by kernel_rfl, by kernel_rfl, by kernel_rfl⟩)⟩
/-- func([]impl.Angle, func(impl.Angle) bool) bool -/
def ti46 : TInfo := ⟨(TypeDesc.func #[45, 33] #[4] false), false, 1, 8, [.raw .nilFunc], none, false, false⟩
theorem ti46_ok : TInfoOk Tryd.prog 46 ti46 := ⟨Tryd.underlying46, ⟨(.nilFunc), by kernel_rfl, rfl, rfl⟩, rfl, rfl, rfl, fun c h => (by first | (cases h; done) | (obtain rfl := Option.some.inj h; exact ⟨rfl, rfl, rfl⟩)), fun h => (by first | (cases h; done) | exact ⟨by kernel_rfl, by kernel_rfl, by kernel_rfl⟩)⟩
/-- []string -/
def ti47 : TInfo := ⟨(TypeDesc.slice 9), false, 1, 24, [.raw (.slice none 0 0)], none, false, false⟩
theorem ti47_ok : TInfoOk Tryd.prog 47 ti47 := ⟨Tryd.underlying47, ⟨((.slice none 0 0)), by kernel_rfl, rfl, rfl⟩, rfl, rfl, rfl, fun c h => (by first | (cases h; done) | (obtain rfl := Option.some.inj h; exact ⟨rfl, rfl, rfl⟩)), fun h => (by first | (cases h; done) | exact ⟨by kernel_rfl, by kernel_rfl, by kernel_rfl⟩)⟩
/-- func(string, uint8) []string -/
def ti48 : TInfo := ⟨(TypeDesc.func #[9, 5] #[47] false), false, 1, 8, [.raw .nilFunc], none, false, false⟩
theorem ti48_ok : TInfoOk Tryd.prog 48 ti48 := ⟨Tryd.underlying48, ⟨(.nilFunc), by kernel_rfl, rfl, rfl⟩, rfl, rfl, rfl, fun c h => (by first | (cases h; done) | (obtain rfl := Option.some.inj h; exact ⟨rfl, rfl, rfl⟩)), fun h => (by first | (cases h; done) | exact ⟨by kernel_rfl, by kernel_rfl, by kernel_rfl⟩)⟩
/-- func(string, int, int) (int64, error) -/
def ti52 : TInfo := ⟨(TypeDesc.func #[9, 3, 3] #[2, 50] false), false, 1, 8, [.raw .nilFunc], none, false, false⟩
theorem ti52_ok : TInfoOk Tryd.prog 52 ti52 := ⟨Tryd.underlying52, ⟨(.nilFunc), by kernel_rfl, rfl, rfl⟩, rfl, rfl, rfl, fun c h => (by first | (cases h; done) | (obtain rfl := Option.some.inj h; exact ⟨rfl, rfl, rfl⟩)), fun h => (by first | (cases h; done) | exact ⟨by kernel_rfl, by kernel_rfl, by kernel_rfl⟩)⟩
/-- []uint8 -/
def ti53 : TInfo := ⟨(TypeDesc.slice 5), false, 1, 24, [.raw (.slice none 0 0)], none, false, false⟩
theorem ti53_ok : TInfoOk Tryd.prog 53 ti53 := ⟨Tryd.underlying53, ⟨((.slice none 0 0)), by kernel_rfl, rfl, rfl⟩, rfl, rfl, rfl, fun c h => (by first | (cases h; done) | (obtain rfl := Option.some.inj h; exact ⟨rfl, rfl, rfl⟩)), fun h => (by first | (cases h; done) | exact ⟨by kernel_rfl, by kernel_rfl, by kernel_rfl⟩)⟩
/-- func(int64, int) string -/
def ti54 : TInfo := ⟨(TypeDesc.func #[2, 3] #[9] false), false, 1, 8, [.raw .nilFunc], none, false, false⟩
theorem ti54_ok : TInfoOk Tryd.prog 54 ti54 := ⟨Tryd.underlying54, ⟨(.nilFunc), by kernel_rfl, rfl, rfl⟩, rfl, rfl, rfl, fun c h => (by first | (cases h; done) | (obtain rfl := Option.some.inj h; exact ⟨rfl, rfl, rfl⟩)), fun h => (by first | (cases h; done) | exact ⟨by kernel_rfl, by kernel_rfl, by kernel_rfl⟩)⟩
/-- func(string, string) int -/
def ti55 : TInfo := ⟨(TypeDesc.func #[9, 9] #[3] false), false, 1, 8, [.raw .nilFunc], none, false, false⟩
theorem ti55_ok : TInfoOk Tryd.prog 55 ti55 := ⟨Tryd.underlying55, ⟨(.nilFunc), by kernel_rfl, rfl, rfl⟩, rfl, rfl, rfl, fun c h => (by first | (cases h; done) | (obtain rfl := Option.some.inj h; exact ⟨rfl, rfl, rfl⟩)), fun h => (by first | (cases h; done) | exact ⟨by kernel_rfl, by kernel_rfl, by kernel_rfl⟩)⟩
/-- func(string, string, int, int, error) error -/
def ti56 : TInfo := ⟨(TypeDesc.func #[9, 9, 3, 3, 50] #[50] false), false, 1, 8, [.raw .nilFunc], none, false, false⟩
theorem ti56_ok : TInfoOk Tryd.prog 56 ti56 := ⟨Tryd.underlying56, ⟨(.nilFunc), by kernel_rfl, rfl, rfl⟩, rfl, rfl, rfl, fun c h => (by first | (cases h; done) | (obtain rfl := Option.some.inj h; exact ⟨rfl, rfl, rfl⟩)), fun h => (by first | (cases h; done) | exact ⟨by kernel_rfl, by kernel_rfl, by kernel_rfl⟩)⟩
/-- func([]impl.Angle, func(impl.Angle) bool) int -/
def ti57 : TInfo := ⟨(TypeDesc.func #[45, 33] #[3] false), false, 1, 8, [.raw .nilFunc], none, false, false⟩
theorem ti57_ok : TInfoOk Tryd.prog 57 ti57 := ⟨Tryd.underlying57, ⟨(.nilFunc), by kernel_rfl, rfl, rfl⟩, rfl, rfl, rfl, fun c h => (by first | (cases h; done) | (obtain rfl := Option.some.inj h; exact ⟨rfl, rfl, rfl⟩)), fun h => (by first | (cases h; done) | exact ⟨by kernel_rfl, by kernel_rfl, by kernel_rfl⟩)⟩
/-- func(string, uint8) int -/
def ti58 : TInfo := ⟨(TypeDesc.func #[9, 5] #[3] false), false, 1, 8, [.raw .nilFunc], none, false, false⟩
theorem ti58_ok : TInfoOk Tryd.prog 58 ti58 := ⟨Tryd.underlying58, ⟨(.nilFunc), by kernel_rfl, rfl, rfl⟩, rfl, rfl, rfl, fun c h => (by first | (cases h; done) | (obtain rfl := Option.some.inj h; exact ⟨rfl, rfl, rfl⟩)), fun h => (by first | (cases h; done) | exact ⟨by kernel_rfl, by kernel_rfl, by kernel_rfl⟩)⟩
/-- func(int) int -/
def ti59 : TInfo := ⟨(TypeDesc.func #[3] #[3] false), false, 1, 8, [.raw .nilFunc], none, false, false⟩
theorem ti59_ok : TInfoOk Tryd.prog 59 ti59 := ⟨Tryd.underlying59, ⟨(.nilFunc), by kernel_rfl, rfl, rfl⟩, rfl, rfl, rfl, fun c h => (by first | (cases h; done) | (obtain rfl := Option.some.inj h; exact ⟨rfl, rfl, rfl⟩)), fun h => (by first | (cases h; done) | exact ⟨by kernel_rfl, by kernel_rfl, by kernel_rfl⟩)⟩
/-- uint -/
def ti60 : TInfo := ⟨(TypeDesc.int IntKind.u64), false, 1, 8, [.int .u64 0], (some (.int .u64)), false, false⟩
theorem ti60_ok : TInfoOk Tryd.prog 60 ti60 := ⟨Tryd.underlying60, ⟨(.int .u64 0), by kernel_rfl, rfl, rfl⟩, rfl, rfl, rfl, fun c h => (by first | (cases h; done) | (obtain rfl := Option.some.inj h; exact ⟨rfl, rfl, rfl⟩)), fun h => (by first | (cases h; done) | exact ⟨by kernel_rfl, by kernel_rfl, by kernel_rfl⟩)⟩
/-- strconv.Error = internal/strconv.Error -/
def ti61 : TInfo := ⟨(TypeDesc.int IntKind.i64), false, 1, 8, [.int .i64 0], (some (.int .i64)), false, false⟩
theorem ti61_ok : TInfoOk Tryd.prog 61 ti61 := ⟨Tryd.underlying61, ⟨(.int .i64 0), by kernel_rfl, rfl, rfl⟩, rfl, rfl, rfl, fun c h => (by first | (cases h; done) | (obtain rfl := Option.some.inj h; exact ⟨rfl, rfl, rfl⟩)), fun h => (by first | (cases h; done) | exact ⟨by kernel_rfl, by kernel_rfl, by kernel_rfl⟩)⟩
/-- uint64 -/
def ti62 : TInfo := ⟨(TypeDesc.int IntKind.u64), false, 1, 8, [.int .u64 0], (some (.int .u64)), false, false⟩
theorem ti62_ok : TInfoOk Tryd.prog 62 ti62 := ⟨Tryd.underlying62, ⟨(.int .u64 0), by kernel_rfl, rfl, rfl⟩, rfl, rfl, rfl, fun c h => (by first | (cases h; done) | (obtain rfl := Option.some.inj h; exact ⟨rfl, rfl, rfl⟩)), fun h => (by first | (cases h; done) | exact ⟨by kernel_rfl, by kernel_rfl, by kernel_rfl⟩)⟩
/-- func(string, int, int) (uint64, error) -/
def ti64 : TInfo := ⟨(TypeDesc.func #[9, 3, 3] #[62, 50] false), false, 1, 8, [.raw .nilFunc], none, false, false⟩
theorem ti64_ok : TInfoOk Tryd.prog 64 ti64 := ⟨Tryd.underlying64, ⟨(.nilFunc), by kernel_rfl, rfl, rfl⟩, rfl, rfl, rfl, fun c h => (by first | (cases h; done) | (obtain rfl := Option.some.inj h; exact ⟨rfl, rfl, rfl⟩)), fun h => (by first | (cases h; done) | exact ⟨by kernel_rfl, by kernel_rfl, by kernel_rfl⟩)⟩
/-- *strconv.NumError -/
def ti65 : TInfo := ⟨(TypeDesc.pointer 80), false, 1, 8, [.raw (.pointer none)], none, false, false⟩
theorem ti65_ok : TInfoOk Tryd.prog 65 ti65 := ⟨Tryd.underlying65, ⟨((.pointer none)), by kernel_rfl, rfl, rfl⟩, rfl, rfl, rfl, fun c h => (by first | (cases h; done) | (obtain rfl := Option.some.inj h; exact ⟨rfl, rfl, rfl⟩)), fun h => (by first | (cases h; done) | exact ⟨by kernel_rfl, by kernel_rfl, by kernel_rfl⟩)⟩
/-- func(string, string) *strconv.NumError -/
def ti66 : TInfo := ⟨(TypeDesc.func #[9, 9] #[65] false), false, 1, 8, [.raw .nilFunc], none, false, false⟩
theorem ti66_ok : TInfoOk Tryd.prog 66 ti66 := ⟨Tryd.underlying66, ⟨(.nilFunc), by kernel_rfl, rfl, rfl⟩, rfl, rfl, rfl, fun c h => (by first | (cases h; done) | (obtain rfl := Option.some.inj h; exact ⟨rfl, rfl, rfl⟩)), fun h => (by first | (cases h; done) | exact ⟨by kernel_rfl, by kernel_rfl, by kernel_rfl⟩)⟩
/-- func(string, string, int) *strconv.NumError -/
def ti67 : TInfo := ⟨(TypeDesc.func #[9, 9, 3] #[65] false), false, 1, 8, [.raw .nilFunc], none, false, false⟩
theorem ti67_ok : TInfoOk Tryd.prog 67 ti67 := ⟨Tryd.underlying67, ⟨(.nilFunc), by kernel_rfl, rfl, rfl⟩, rfl, rfl, rfl, fun c h => (by first | (cases h; done) | (obtain rfl := Option.some.inj h; exact ⟨rfl, rfl, rfl⟩)), fun h => (by first | (cases h; done) | exact ⟨by kernel_rfl, by kernel_rfl, by kernel_rfl⟩)⟩
/-- func(int) string -/
def ti68 : TInfo := ⟨(TypeDesc.func #[3] #[9] false), false, 1, 8, [.raw .nilFunc], none, false, false⟩
theorem ti68_ok : TInfoOk Tryd.prog 68 ti68 := ⟨Tryd.underlying68, ⟨(.nilFunc), by kernel_rfl, rfl, rfl⟩, rfl, rfl, rfl, fun c h => (by first | (cases h; done) | (obtain rfl := Option.some.inj h; exact ⟨rfl, rfl, rfl⟩)), fun h => (by first | (cases h; done) | exact ⟨by kernel_rfl, by kernel_rfl, by kernel_rfl⟩)⟩
/-- func(uint64) int -/
def ti70 : TInfo := ⟨(TypeDesc.func #[62] #[3] false), false, 1, 8, [.raw .nilFunc], none, false, false⟩
theorem ti70_ok : TInfoOk Tryd.prog 70 ti70 := ⟨Tryd.underlying70, ⟨(.nilFunc), by kernel_rfl, rfl, rfl⟩, rfl, rfl, rfl, fun c h => (by first | (cases h; done) | (obtain rfl := Option.some.inj h; exact ⟨rfl, rfl, rfl⟩)), fun h => (by first | (cases h; done) | exact ⟨by kernel_rfl, by kernel_rfl, by kernel_rfl⟩)⟩
/-- func([]uint8, uint64) -/
def ti71 : TInfo := ⟨(TypeDesc.func #[53, 62] #[] false), false, 1, 8, [.raw .nilFunc], none, false, false⟩
theorem ti71_ok : TInfoOk Tryd.prog 71 ti71 := ⟨Tryd.underlying71, ⟨(.nilFunc), by kernel_rfl, rfl, rfl⟩, rfl, rfl, rfl, fun c h => (by first | (cases h; done) | (obtain rfl := Option.some.inj h; exact ⟨rfl, rfl, rfl⟩)), fun h => (by first | (cases h; done) | exact ⟨by kernel_rfl, by kernel_rfl, by kernel_rfl⟩)⟩
/-- func([]uint8, uint64, int, bool, bool) ([]uint8, string) -/
def ti73 : TInfo := ⟨(TypeDesc.func #[53, 62, 3, 4, 4] #[53, 9] false), false, 1, 8, [.raw .nilFunc], none, false, false⟩
theorem ti73_ok : TInfoOk Tryd.prog 73 ti73 := ⟨Tryd.underlying73, ⟨(.nilFunc), by kernel_rfl, rfl, rfl⟩, rfl, rfl, rfl, fun c h => (by first | (cases h; done) | (obtain rfl := Option.some.inj h; exact ⟨rfl, rfl, rfl⟩)), fun h => (by first | (cases h; done) | exact ⟨by kernel_rfl, by kernel_rfl, by kernel_rfl⟩)⟩
/-- uint32 -/
def ti74 : TInfo := ⟨(TypeDesc.int IntKind.u32), false, 1, 4, [.int .u32 0], (some (.int .u32)), false, false⟩
theorem ti74_ok : TInfoOk Tryd.prog 74 ti74 := ⟨Tryd.underlying74, ⟨(.int .u32 0), by kernel_rfl, rfl, rfl⟩, rfl, rfl, rfl, fun c h => (by first | (cases h; done) | (obtain rfl := Option.some.inj h; exact ⟨rfl, rfl, rfl⟩)), fun h => (by first | (cases h; done) | exact ⟨by kernel_rfl, by kernel_rfl, by kernel_rfl⟩)⟩
/-- func(string) (uint32, uint32) -/
def ti76 : TInfo := ⟨(TypeDesc.func #[9] #[74, 74] false), false, 1, 8, [.raw .nilFunc], none, false, false⟩
theorem ti76_ok : TInfoOk Tryd.prog 76 ti76 := ⟨Tryd.underlying76, ⟨(.nilFunc), by kernel_rfl, rfl, rfl⟩, rfl, rfl, rfl, fun c h => (by first | (cases h; done) | (obtain rfl := Option.some.inj h; exact ⟨rfl, rfl, rfl⟩)), fun h => (by first | (cases h; done) | exact ⟨by kernel_rfl, by kernel_rfl, by kernel_rfl⟩)⟩
/-- func(uint8) uint8 -/
def ti77 : TInfo := ⟨(TypeDesc.func #[5] #[5] false), false, 1, 8, [.raw .nilFunc], none, false, false⟩
theorem ti77_ok : TInfoOk Tryd.prog 77 ti77 := ⟨Tryd.underlying77, ⟨(.nilFunc), by kernel_rfl, rfl, rfl⟩, rfl, rfl, rfl, fun c h => (by first | (cases h; done) | (obtain rfl := Option.some.inj h; exact ⟨rfl, rfl, rfl⟩)), fun h => (by first | (cases h; done) | exact ⟨by kernel_rfl, by kernel_rfl, by kernel_rfl⟩)⟩
/-- func(string) string -/
def ti78 : TInfo := ⟨(TypeDesc.func #[9] #[9] false), false, 1, 8, [.raw .nilFunc], none, false, false⟩
theorem ti78_ok : TInfoOk Tryd.prog 78 ti78 := ⟨Tryd.underlying78, ⟨(.nilFunc), by kernel_rfl, rfl, rfl⟩, rfl, rfl, rfl, fun c h => (by first | (cases h; done) | (obtain rfl := Option.some.inj h; exact ⟨rfl, rfl, rfl⟩)), fun h => (by first | (cases h; done) | exact ⟨by kernel_rfl, by kernel_rfl, by kernel_rfl⟩)⟩
/-- func(string) error -/
def ti81 : TInfo := ⟨(TypeDesc.func #[9] #[50] false), false, 1, 8, [.raw .nilFunc], none, false, false⟩
theorem ti81_ok : TInfoOk Tryd.prog 81 ti81 := ⟨Tryd.underlying81, ⟨(.nilFunc), by kernel_rfl, rfl, rfl⟩, rfl, rfl, rfl, fun c h => (by first | (cases h; done) | (obtain rfl := Option.some.inj h; exact ⟨rfl, rfl, rfl⟩)), fun h => (by first | (cases h; done) | exact ⟨by kernel_rfl, by kernel_rfl, by kernel_rfl⟩)⟩
/-- func(bool) int -/
def ti82 : TInfo := ⟨(TypeDesc.func #[4] #[3] false), false, 1, 8, [.raw .nilFunc], none, false, false⟩
theorem ti82_ok : TInfoOk Tryd.prog 82 ti82 := ⟨Tryd.underlying82, ⟨(.nilFunc), by kernel_rfl, rfl, rfl⟩, rfl, rfl, rfl, fun c h => (by first | (cases h; done) | (obtain rfl := Option.some.inj h; exact ⟨rfl, rfl, rfl⟩)), fun h => (by first | (cases h; done) | exact ⟨by kernel_rfl, by kernel_rfl, by kernel_rfl⟩)⟩
/-- func(int) bool -/
def ti85 : TInfo := ⟨(TypeDesc.func #[3] #[4] false), false, 1, 8, [.raw .nilFunc], none, false, false⟩
theorem ti85_ok : TInfoOk Tryd.prog 85 ti85 := ⟨Tryd.underlying85, ⟨(.nilFunc), by kernel_rfl, rfl, rfl⟩, rfl, rfl, rfl, fun c h => (by first | (cases h; done) | (obtain rfl := Option.some.inj h; exact ⟨rfl, rfl, rfl⟩)), fun h => (by first | (cases h; done) | exact ⟨by kernel_rfl, by kernel_rfl, by kernel_rfl⟩)⟩
/-- func(uint) int -/
def ti86 : TInfo := ⟨(TypeDesc.func #[60] #[3] false), false, 1, 8, [.raw .nilFunc], none, false, false⟩
theorem ti86_ok : TInfoOk Tryd.prog 86 ti86 := ⟨Tryd.underlying86, ⟨(.nilFunc), by kernel_rfl, rfl, rfl⟩, rfl, rfl, rfl, fun c h => (by first | (cases h; done) | (obtain rfl := Option.some.inj h; exact ⟨rfl, rfl, rfl⟩)), fun h => (by first | (cases h; done) | exact ⟨by kernel_rfl, by kernel_rfl, by kernel_rfl⟩)⟩
/-- *uint8 -/
def ti87 : TInfo := ⟨(TypeDesc.pointer 5), false, 1, 8, [.raw (.pointer none)], none, false, false⟩
theorem ti87_ok : TInfoOk Tryd.prog 87 ti87 := ⟨Tryd.underlying87, ⟨((.pointer none)), by kernel_rfl, rfl, rfl⟩, rfl, rfl, rfl, fun c h => (by first | (cases h; done) | (obtain rfl := Option.some.inj h; exact ⟨rfl, rfl, rfl⟩)), fun h => (by first | (cases h; done) | exact ⟨by kernel_rfl, by kernel_rfl, by kernel_rfl⟩)⟩
/-- *errors.errorString -/
def ti88 : TInfo := ⟨(TypeDesc.pointer 90), false, 1, 8, [.raw (.pointer none)], none, false, false⟩
theorem ti88_ok : TInfoOk Tryd.prog 88 ti88 := ⟨Tryd.underlying88, ⟨((.pointer none)), by kernel_rfl, rfl, rfl⟩, rfl, rfl, rfl, fun c h => (by first | (cases h; done) | (obtain rfl := Option.some.inj h; exact ⟨rfl, rfl, rfl⟩)), fun h => (by first | (cases h; done) | exact ⟨by kernel_rfl, by kernel_rfl, by kernel_rfl⟩)⟩
/-- struct { s string } -/
def ti89 : TInfo := ⟨(TypeDesc.struct #[{ name := "s", type := 9, offset := 0, embedded := false, tag := "", pkgPath := "errors", byteOffset := 0 }]), true, 1, 16, [.str ByteArray.empty], none, true, false⟩
theorem ti89_ok : TInfoOk Tryd.prog 89 ti89 := ⟨Tryd.underlying89, ⟨(.agg #[.string ByteArray.empty]), by kernel_rfl, rfl, rfl⟩, rfl, rfl, rfl, fun c h => (by first | (cases h; done) | (obtain rfl := Option.some.inj h; exact ⟨rfl, rfl, rfl⟩)), fun h => (by first | (cases h; done) | exact ⟨by kernel_rfl, by kernel_rfl, by kernel_rfl⟩)⟩
/-- errors.errorString -/
def ti90 : TInfo := ⟨(TypeDesc.struct #[{ name := "s", type := 9, offset := 0, embedded := false, tag := "", pkgPath := "errors", byteOffset := 0 }]), true, 1, 16, [.str ByteArray.empty], none, true, false⟩
theorem ti90_ok : TInfoOk Tryd.prog 90 ti90 := ⟨Tryd.underlying90, ⟨(.agg #[.string ByteArray.empty]), by kernel_rfl, rfl, rfl⟩, rfl, rfl, rfl, fun c h => (by first | (cases h; done) | (obtain rfl := Option.some.inj h; exact ⟨rfl, rfl, rfl⟩)), fun h => (by first | (cases h; done) | exact ⟨by kernel_rfl, by kernel_rfl, by kernel_rfl⟩)⟩
/-- func(uint32) int -/
def ti91 : TInfo := ⟨(TypeDesc.func #[74] #[3] false), false, 1, 8, [.raw .nilFunc], none, false, false⟩
theorem ti91_ok : TInfoOk Tryd.prog 91 ti91 := ⟨Tryd.underlying91, ⟨(.nilFunc), by kernel_rfl, rfl, rfl⟩, rfl, rfl, rfl, fun c h => (by first | (cases h; done) | (obtain rfl := Option.some.inj h; exact ⟨rfl, rfl, rfl⟩)), fun h => (by first | (cases h; done) | exact ⟨by kernel_rfl, by kernel_rfl, by kernel_rfl⟩)⟩
/-- func() int -/
def ti99 : TInfo := ⟨(TypeDesc.func #[] #[3] false), false, 1, 8, [.raw .nilFunc], none, false, false⟩
theorem ti99_ok : TInfoOk Tryd.prog 99 ti99 := ⟨Tryd.underlying99, ⟨(.nilFunc), by kernel_rfl, rfl, rfl⟩, rfl, rfl, rfl, fun c h => (by first | (cases h; done) | (obtain rfl := Option.some.inj h; exact ⟨rfl, rfl, rfl⟩)), fun h => (by first | (cases h; done) | exact ⟨by kernel_rfl, by kernel_rfl, by kernel_rfl⟩)⟩
def TL : List (TypeId × TInfo) := [(1, ti1), (2, ti2), (3, ti3), (4, ti4), (5, ti5), (9, ti9), (21, ti21), (22, ti22), (23, ti23), (25, ti25), (26, ti26), (27, ti27), (28, ti28), (30, ti30), (31, ti31), (32, ti32), (33, ti33), (34, ti34), (35, ti35), (36, ti36), (38, ti38), (40, ti40), (41, ti41), (42, ti42), (43, ti43), (44, ti44), (45, ti45), (46, ti46), (47, ti47), (48, ti48), (52, ti52), (53, ti53), (54, ti54), (55, ti55), (56, ti56), (57, ti57), (58, ti58), (59, ti59), (60, ti60), (61, ti61), (62, ti62), (64, ti64), (65, ti65), (66, ti66), (67, ti67), (68, ti68), (70, ti70), (71, ti71), (73, ti73), (74, ti74), (76, ti76), (77, ti77), (78, ti78), (81, ti81), (82, ti82), (85, ti85), (86, ti86), (87, ti87), (88, ti88), (89, ti89), (90, ti90), (91, ti91), (99, ti99)]
def ti64w : TInfo := { ti2 with wf := true }
theorem ti64w_ok : TInfoOk Tryd.prog 2 ti64w := ⟨ti2_ok.und, ti2_ok.info, ti2_ok.agg, ti2_ok.flat, ti2_ok.zlen, ti2_ok.ty, ti2_ok.eqOk⟩
def TLW : List (TypeId × TInfo) := [(1, ti1), (2, ti64w), (3, ti3), (4, ti4), (5, ti5), (9, ti9), (21, ti21), (22, ti22), (23, ti23), (25, ti25), (26, ti26), (27, ti27), (28, ti28), (30, ti30), (31, ti31), (32, ti32), (33, ti33), (34, ti34), (35, ti35), (36, ti36), (38, ti38), (40, ti40), (41, ti41), (42, ti42), (43, ti43), (44, ti44), (45, ti45), (46, ti46), (47, ti47), (48, ti48), (52, ti52), (53, ti53), (54, ti54), (55, ti55), (56, ti56), (57, ti57), (58, ti58), (59, ti59), (60, ti60), (61, ti61), (62, ti62), (64, ti64), (65, ti65), (66, ti66), (67, ti67), (68, ti68), (70, ti70), (71, ti71), (73, ti73), (74, ti74), (76, ti76), (77, ti77), (78, ti78), (81, ti81), (82, ti82), (85, ti85), (86, ti86), (87, ti87), (88, ti88), (89, ti89), (90, ti90), (91, ti91), (99, ti99)]
def TW : TypeId → Option TInfo := lookT TLW
theorem T_okW : TOk Tryd.prog TW := TOk.list (by
  intro p hp
  simp only [TLW, List.mem_cons, List.not_mem_nil, or_false] at hp
  rcases hp with rfl | rfl | rfl | rfl | rfl | rfl | rfl | rfl | rfl | rfl | rfl | rfl | rfl | rfl | rfl | rfl | rfl | rfl | rfl | rfl | rfl | rfl | rfl | rfl | rfl | rfl | rfl | rfl | rfl | rfl | rfl | rfl | rfl | rfl | rfl | rfl | rfl | rfl | rfl | rfl | rfl | rfl | rfl | rfl | rfl | rfl | rfl | rfl | rfl | rfl | rfl | rfl | rfl | rfl | rfl | rfl | rfl | rfl | rfl | rfl | rfl | rfl | rfl
  · exact ti1_ok
  · exact ti64w_ok
  · exact ti3_ok
  · exact ti4_ok
  · exact ti5_ok
  · exact ti9_ok
  · exact ti21_ok
  · exact ti22_ok
  · exact ti23_ok
  · exact ti25_ok
  · exact ti26_ok
  · exact ti27_ok
  · exact ti28_ok
  · exact ti30_ok
  · exact ti31_ok
  · exact ti32_ok
  · exact ti33_ok
  · exact ti34_ok
  · exact ti35_ok
  · exact ti36_ok
  · exact ti38_ok
  · exact ti40_ok
  · exact ti41_ok
  · exact ti42_ok
  · exact ti43_ok
  · exact ti44_ok
  · exact ti45_ok
  · exact ti46_ok
  · exact ti47_ok
  · exact ti48_ok
  · exact ti52_ok
  · exact ti53_ok
  · exact ti54_ok
  · exact ti55_ok
  · exact ti56_ok
  · exact ti57_ok
  · exact ti58_ok
  · exact ti59_ok
  · exact ti60_ok
  · exact ti61_ok
  · exact ti62_ok
  · exact ti64_ok
  · exact ti65_ok
  · exact ti66_ok
  · exact ti67_ok
  · exact ti68_ok
  · exact ti70_ok
  · exact ti71_ok
  · exact ti73_ok
  · exact ti74_ok
  · exact ti76_ok
  · exact ti77_ok
  · exact ti78_ok
  · exact ti81_ok
  · exact ti82_ok
  · exact ti85_ok
  · exact ti86_ok
  · exact ti87_ok
  · exact ti88_ok
  · exact ti89_ok
  · exact ti90_ok
  · exact ti91_ok
  · exact ti99_ok)
def T : TypeId → Option TInfo := lookT TL
theorem T_ok : TOk Tryd.prog T := TOk.list (by
  intro p hp
  simp only [TL, List.mem_cons, List.not_mem_nil, or_false] at hp
  rcases hp with rfl | rfl | rfl | rfl | rfl | rfl | rfl | rfl | rfl | rfl | rfl | rfl | rfl | rfl | rfl | rfl | rfl | rfl | rfl | rfl | rfl | rfl | rfl | rfl | rfl | rfl | rfl | rfl | rfl | rfl | rfl | rfl | rfl | rfl | rfl | rfl | rfl | rfl | rfl | rfl | rfl | rfl | rfl | rfl | rfl | rfl | rfl | rfl | rfl | rfl | rfl | rfl | rfl | rfl | rfl | rfl | rfl | rfl | rfl | rfl | rfl | rfl | rfl
  · exact ti1_ok
  · exact ti2_ok
  · exact ti3_ok
  · exact ti4_ok
  · exact ti5_ok
  · exact ti9_ok
  · exact ti21_ok
  · exact ti22_ok
  · exact ti23_ok
  · exact ti25_ok
  · exact ti26_ok
  · exact ti27_ok
  · exact ti28_ok
  · exact ti30_ok
  · exact ti31_ok
  · exact ti32_ok
  · exact ti33_ok
  · exact ti34_ok
  · exact ti35_ok
  · exact ti36_ok
  · exact ti38_ok
  · exact ti40_ok
  · exact ti41_ok
  · exact ti42_ok
  · exact ti43_ok
  · exact ti44_ok
  · exact ti45_ok
  · exact ti46_ok
  · exact ti47_ok
  · exact ti48_ok
  · exact ti52_ok
  · exact ti53_ok
  · exact ti54_ok
  · exact ti55_ok
  · exact ti56_ok
  · exact ti57_ok
  · exact ti58_ok
  · exact ti59_ok
  · exact ti60_ok
  · exact ti61_ok
  · exact ti62_ok
  · exact ti64_ok
  · exact ti65_ok
  · exact ti66_ok
  · exact ti67_ok
  · exact ti68_ok
  · exact ti70_ok
  · exact ti71_ok
  · exact ti73_ok
  · exact ti74_ok
  · exact ti76_ok
  · exact ti77_ok
  · exact ti78_ok
  · exact ti81_ok
  · exact ti82_ok
  · exact ti85_ok
  · exact ti86_ok
  · exact ti87_ok
  · exact ti88_ok
  · exact ti89_ok
  · exact ti90_ok
  · exact ti91_ok
  · exact ti99_ok)
end Go.Proofs.YtmbfflckgmdncaaDoor.Fw
