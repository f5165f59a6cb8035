/- What is known of the data types of this seat's program. Written by a program of this session (gen_types.py) out of Lean's own print of the program's types. -/
import Derived.Test.YtlplngafncobkadGA
import Derived.Test.YtlplngafncobkadProg
namespace Go.Proofs.Ytlplngafncobkad.Fw
open Go
set_option maxRecDepth 100000

/-- func() -/
def ti1 : TInfo := ⟨(TypeDesc.func #[] #[] false), false, 1, 8, [.raw .nilFunc], none, false, false⟩
theorem ti1_ok : TInfoOk Try.prog 1 ti1 := ⟨Try.underlying1, ⟨(.nilFunc), by kernel_rfl, rfl, rfl⟩, rfl, rfl, rfl, fun c h => (by first | (cases h; done) | (obtain rfl := Option.some.inj h; exact ⟨rfl, rfl, rfl⟩)), fun h => (by first | (cases h; done) | exact ⟨by kernel_rfl, by kernel_rfl, by kernel_rfl⟩)⟩
/-- int64 -/
def ti2 : TInfo := ⟨(TypeDesc.int IntKind.i64), false, 1, 8, [.int .i64 0], (some (.int .i64)), false, false⟩
theorem ti2_ok : TInfoOk Try.prog 2 ti2 := ⟨Try.underlying2, ⟨(.int .i64 0), by kernel_rfl, rfl, rfl⟩, rfl, rfl, rfl, fun c h => (by first | (cases h; done) | (obtain rfl := Option.some.inj h; exact ⟨rfl, rfl, rfl⟩)), fun h => (by first | (cases h; done) | exact ⟨by kernel_rfl, by kernel_rfl, by kernel_rfl⟩)⟩
/-- int -/
def ti3 : TInfo := ⟨(TypeDesc.int IntKind.i64), false, 1, 8, [.int .i64 0], (some (.int .i64)), false, false⟩
theorem ti3_ok : TInfoOk Try.prog 3 ti3 := ⟨Try.underlying3, ⟨(.int .i64 0), by kernel_rfl, rfl, rfl⟩, rfl, rfl, rfl, fun c h => (by first | (cases h; done) | (obtain rfl := Option.some.inj h; exact ⟨rfl, rfl, rfl⟩)), fun h => (by first | (cases h; done) | exact ⟨by kernel_rfl, by kernel_rfl, by kernel_rfl⟩)⟩
/-- bool -/
def ti4 : TInfo := ⟨TypeDesc.bool, false, 1, 1, [.bool false], (some (.bool)), false, false⟩
theorem ti4_ok : TInfoOk Try.prog 4 ti4 := ⟨Try.underlying4, ⟨(.bool false), by kernel_rfl, rfl, rfl⟩, rfl, rfl, rfl, fun c h => (by first | (cases h; done) | (obtain rfl := Option.some.inj h; exact ⟨rfl, rfl, rfl⟩)), fun h => (by first | (cases h; done) | exact ⟨by kernel_rfl, by kernel_rfl, by kernel_rfl⟩)⟩
/-- uint8 -/
def ti5 : TInfo := ⟨(TypeDesc.int IntKind.u8), false, 1, 1, [.int .u8 0], (some (.int .u8)), false, false⟩
theorem ti5_ok : TInfoOk Try.prog 5 ti5 := ⟨Try.underlying5, ⟨(.int .u8 0), by kernel_rfl, rfl, rfl⟩, rfl, rfl, rfl, fun c h => (by first | (cases h; done) | (obtain rfl := Option.some.inj h; exact ⟨rfl, rfl, rfl⟩)), fun h => (by first | (cases h; done) | exact ⟨by kernel_rfl, by kernel_rfl, by kernel_rfl⟩)⟩
/-- string -/
def ti9 : TInfo := ⟨TypeDesc.string, false, 1, 16, [.str ByteArray.empty], (some (.str)), false, false⟩
theorem ti9_ok : TInfoOk Try.prog 9 ti9 := ⟨Try.underlying9, ⟨(.string ByteArray.empty), by kernel_rfl, rfl, rfl⟩, rfl, rfl, rfl, fun c h => (by first | (cases h; done) | (obtain rfl := Option.some.inj h; exact ⟨rfl, rfl, rfl⟩)), fun h => (by first | (cases h; done) | exact ⟨by kernel_rfl, by kernel_rfl, by kernel_rfl⟩)⟩
/-- int32 -/
def ti21 : TInfo := ⟨(TypeDesc.int IntKind.i32), false, 1, 4, [.int .i32 0], (some (.int .i32)), false, false⟩
theorem ti21_ok : TInfoOk Try.prog 21 ti21 := ⟨Try.underlying21, ⟨(.int .i32 0), by kernel_rfl, rfl, rfl⟩, rfl, rfl, rfl, fun c h => (by first | (cases h; done) | (obtain rfl := Option.some.inj h; exact ⟨rfl, rfl, rfl⟩)), fun h => (by first | (cases h; done) | exact ⟨by kernel_rfl, by kernel_rfl, by kernel_rfl⟩)⟩
/-- struct { Pre string; Per string } -/
def ti22 : TInfo := ⟨(TypeDesc.struct #[{ name := "Pre", type := 9, offset := 0, embedded := false, tag := "", pkgPath := "", byteOffset := 0 }, { name := "Per", type := 9, offset := 1, embedded := false, tag := "", pkgPath := "", byteOffset := 16 }]), true, 2, 32, [.str ByteArray.empty, .str ByteArray.empty], (some (.pair .str .str)), true, false⟩
theorem ti22_ok : TInfoOk Try.prog 22 ti22 := ⟨Try.underlying22, ⟨(.agg #[.string ByteArray.empty, .string ByteArray.empty]), by kernel_rfl, rfl, rfl⟩, rfl, rfl, rfl, fun c h => (by first | (cases h; done) | (obtain rfl := Option.some.inj h; exact ⟨rfl, rfl, rfl⟩)), fun h => (by first | (cases h; done) | exact ⟨by kernel_rfl, by kernel_rfl, by kernel_rfl⟩)⟩
/-- laws.Sequence = loop.example/g01234/laws.Sequence -/
def ti23 : TInfo := ⟨(TypeDesc.struct #[{ name := "Pre", type := 9, offset := 0, embedded := false, tag := "", pkgPath := "", byteOffset := 0 }, { name := "Per", type := 9, offset := 1, embedded := false, tag := "", pkgPath := "", byteOffset := 16 }]), true, 2, 32, [.str ByteArray.empty, .str ByteArray.empty], (some (.pair .str .str)), true, false⟩
theorem ti23_ok : TInfoOk Try.prog 23 ti23 := ⟨Try.underlying23, ⟨(.agg #[.string ByteArray.empty, .string ByteArray.empty]), by kernel_rfl, rfl, rfl⟩, rfl, rfl, rfl, fun c h => (by first | (cases h; done) | (obtain rfl := Option.some.inj h; exact ⟨rfl, rfl, rfl⟩)), fun h => (by first | (cases h; done) | exact ⟨by kernel_rfl, by kernel_rfl, by kernel_rfl⟩)⟩
/-- func(laws.Sequence, int) int -/
def ti24 : TInfo := ⟨(TypeDesc.func #[23, 3] #[3] false), false, 1, 8, [.raw .nilFunc], none, false, false⟩
theorem ti24_ok : TInfoOk Try.prog 24 ti24 := ⟨Try.underlying24, ⟨(.nilFunc), by kernel_rfl, rfl, rfl⟩, rfl, rfl, rfl, fun c h => (by first | (cases h; done) | (obtain rfl := Option.some.inj h; exact ⟨rfl, rfl, rfl⟩)), fun h => (by first | (cases h; done) | exact ⟨by kernel_rfl, by kernel_rfl, by kernel_rfl⟩)⟩
/-- func(impl.Sequence) (string, int64) -/
def ti26 : TInfo := ⟨(TypeDesc.func #[27] #[9, 2] false), false, 1, 8, [.raw .nilFunc], none, false, false⟩
theorem ti26_ok : TInfoOk Try.prog 26 ti26 := ⟨Try.underlying26, ⟨(.nilFunc), by kernel_rfl, rfl, rfl⟩, rfl, rfl, rfl, fun c h => (by first | (cases h; done) | (obtain rfl := Option.some.inj h; exact ⟨rfl, rfl, rfl⟩)), fun h => (by first | (cases h; done) | exact ⟨by kernel_rfl, by kernel_rfl, by kernel_rfl⟩)⟩
/-- impl.Sequence = loop.example/g01234/impl.Sequence -/
def ti27 : TInfo := ⟨(TypeDesc.struct #[{ name := "Pre", type := 9, offset := 0, embedded := false, tag := "", pkgPath := "", byteOffset := 0 }, { name := "Per", type := 9, offset := 1, embedded := false, tag := "", pkgPath := "", byteOffset := 16 }]), true, 2, 32, [.str ByteArray.empty, .str ByteArray.empty], (some (.pair .str .str)), true, false⟩
theorem ti27_ok : TInfoOk Try.prog 27 ti27 := ⟨Try.underlying27, ⟨(.agg #[.string ByteArray.empty, .string ByteArray.empty]), by kernel_rfl, rfl, rfl⟩, rfl, rfl, rfl, fun c h => (by first | (cases h; done) | (obtain rfl := Option.some.inj h; exact ⟨rfl, rfl, rfl⟩)), fun h => (by first | (cases h; done) | exact ⟨by kernel_rfl, by kernel_rfl, by kernel_rfl⟩)⟩
/-- func(laws.Sequence) impl.Sequence -/
def ti28 : TInfo := ⟨(TypeDesc.func #[23] #[27] false), false, 1, 8, [.raw .nilFunc], none, false, false⟩
theorem ti28_ok : TInfoOk Try.prog 28 ti28 := ⟨Try.underlying28, ⟨(.nilFunc), by kernel_rfl, rfl, rfl⟩, rfl, rfl, rfl, fun c h => (by first | (cases h; done) | (obtain rfl := Option.some.inj h; exact ⟨rfl, rfl, rfl⟩)), fun h => (by first | (cases h; done) | exact ⟨by kernel_rfl, by kernel_rfl, by kernel_rfl⟩)⟩
/-- func(laws.Sequence) bool -/
def ti29 : TInfo := ⟨(TypeDesc.func #[23] #[4] false), false, 1, 8, [.raw .nilFunc], none, false, false⟩
theorem ti29_ok : TInfoOk Try.prog 29 ti29 := ⟨Try.underlying29, ⟨(.nilFunc), by kernel_rfl, rfl, rfl⟩, rfl, rfl, rfl, fun c h => (by first | (cases h; done) | (obtain rfl := Option.some.inj h; exact ⟨rfl, rfl, rfl⟩)), fun h => (by first | (cases h; done) | exact ⟨by kernel_rfl, by kernel_rfl, by kernel_rfl⟩)⟩
/-- struct { Num int64; Den int64 } -/
def ti30 : TInfo := ⟨(TypeDesc.struct #[{ name := "Num", type := 2, offset := 0, embedded := false, tag := "", pkgPath := "", byteOffset := 0 }, { name := "Den", type := 2, offset := 1, embedded := false, tag := "", pkgPath := "", byteOffset := 8 }]), true, 2, 16, [.int .i64 0, .int .i64 0], (some (.pair (.int .i64) (.int .i64))), true, false⟩
theorem ti30_ok : TInfoOk Try.prog 30 ti30 := ⟨Try.underlying30, ⟨(.agg #[.int .i64 0, .int .i64 0]), by kernel_rfl, rfl, rfl⟩, rfl, rfl, rfl, fun c h => (by first | (cases h; done) | (obtain rfl := Option.some.inj h; exact ⟨rfl, rfl, rfl⟩)), fun h => (by first | (cases h; done) | exact ⟨by kernel_rfl, by kernel_rfl, by kernel_rfl⟩)⟩
/-- laws.Angle = loop.example/g01234/laws.Angle -/
def ti31 : TInfo := ⟨(TypeDesc.struct #[{ name := "Num", type := 2, offset := 0, embedded := false, tag := "", pkgPath := "", byteOffset := 0 }, { name := "Den", type := 2, offset := 1, embedded := false, tag := "", pkgPath := "", byteOffset := 8 }]), true, 2, 16, [.int .i64 0, .int .i64 0], (some (.pair (.int .i64) (.int .i64))), true, false⟩
theorem ti31_ok : TInfoOk Try.prog 31 ti31 := ⟨Try.underlying31, ⟨(.agg #[.int .i64 0, .int .i64 0]), by kernel_rfl, rfl, rfl⟩, rfl, rfl, rfl, fun c h => (by first | (cases h; done) | (obtain rfl := Option.some.inj h; exact ⟨rfl, rfl, rfl⟩)), fun h => (by first | (cases h; done) | exact ⟨by kernel_rfl, by kernel_rfl, by kernel_rfl⟩)⟩
/-- struct { First laws.Angle; Second laws.Angle; Sequence laws.Sequence } -/
def ti32 : TInfo := ⟨(TypeDesc.struct #[{ name := "First", type := 31, offset := 0, embedded := false, tag := "", pkgPath := "", byteOffset := 0 }, { name := "Second", type := 31, offset := 2, embedded := false, tag := "", pkgPath := "", byteOffset := 16 }, { name := "Sequence", type := 23, offset := 4, embedded := false, tag := "", pkgPath := "", byteOffset := 32 }]), true, 6, 64, [.int .i64 0, .int .i64 0, .int .i64 0, .int .i64 0, .str ByteArray.empty, .str ByteArray.empty], (some (.pair (.pair (.int .i64) (.int .i64)) (.pair (.pair (.int .i64) (.int .i64)) (.pair .str .str)))), true, false⟩
theorem ti32_ok : TInfoOk Try.prog 32 ti32 := ⟨Try.underlying32, ⟨(.agg #[.int .i64 0, .int .i64 0, .int .i64 0, .int .i64 0, .string ByteArray.empty, .string ByteArray.empty]), by kernel_rfl, rfl, rfl⟩, rfl, rfl, rfl, fun c h => (by first | (cases h; done) | (obtain rfl := Option.some.inj h; exact ⟨rfl, rfl, rfl⟩)), fun h => (by first | (cases h; done) | exact ⟨by kernel_rfl, by kernel_rfl, by kernel_rfl⟩)⟩
/-- laws.Desk = loop.example/g01234/laws.Desk -/
def ti33 : TInfo := ⟨(TypeDesc.struct #[{ name := "First", type := 31, offset := 0, embedded := false, tag := "", pkgPath := "", byteOffset := 0 }, { name := "Second", type := 31, offset := 2, embedded := false, tag := "", pkgPath := "", byteOffset := 16 }, { name := "Sequence", type := 23, offset := 4, embedded := false, tag := "", pkgPath := "", byteOffset := 32 }]), true, 6, 64, [.int .i64 0, .int .i64 0, .int .i64 0, .int .i64 0, .str ByteArray.empty, .str ByteArray.empty], (some (.pair (.pair (.int .i64) (.int .i64)) (.pair (.pair (.int .i64) (.int .i64)) (.pair .str .str)))), true, false⟩
theorem ti33_ok : TInfoOk Try.prog 33 ti33 := ⟨Try.underlying33, ⟨(.agg #[.int .i64 0, .int .i64 0, .int .i64 0, .int .i64 0, .string ByteArray.empty, .string ByteArray.empty]), by kernel_rfl, rfl, rfl⟩, rfl, rfl, rfl, fun c h => (by first | (cases h; done) | (obtain rfl := Option.some.inj h; exact ⟨rfl, rfl, rfl⟩)), fun h => (by first | (cases h; done) | exact ⟨by kernel_rfl, by kernel_rfl, by kernel_rfl⟩)⟩
/-- func(laws.Desk, int) int -/
def ti34 : TInfo := ⟨(TypeDesc.func #[33, 3] #[3] false), false, 1, 8, [.raw .nilFunc], none, false, false⟩
theorem ti34_ok : TInfoOk Try.prog 34 ti34 := ⟨Try.underlying34, ⟨(.nilFunc), by kernel_rfl, rfl, rfl⟩, rfl, rfl, rfl, fun c h => (by first | (cases h; done) | (obtain rfl := Option.some.inj h; exact ⟨rfl, rfl, rfl⟩)), fun h => (by first | (cases h; done) | exact ⟨by kernel_rfl, by kernel_rfl, by kernel_rfl⟩)⟩
/-- func(impl.Desk) bool -/
def ti35 : TInfo := ⟨(TypeDesc.func #[38] #[4] false), false, 1, 8, [.raw .nilFunc], none, false, false⟩
theorem ti35_ok : TInfoOk Try.prog 35 ti35 := ⟨Try.underlying35, ⟨(.nilFunc), by kernel_rfl, rfl, rfl⟩, rfl, rfl, rfl, fun c h => (by first | (cases h; done) | (obtain rfl := Option.some.inj h; exact ⟨rfl, rfl, rfl⟩)), fun h => (by first | (cases h; done) | exact ⟨by kernel_rfl, by kernel_rfl, by kernel_rfl⟩)⟩
/-- impl.Angle = loop.example/g01234/impl.Angle -/
def ti36 : TInfo := ⟨(TypeDesc.struct #[{ name := "Num", type := 2, offset := 0, embedded := false, tag := "", pkgPath := "", byteOffset := 0 }, { name := "Den", type := 2, offset := 1, embedded := false, tag := "", pkgPath := "", byteOffset := 8 }]), true, 2, 16, [.int .i64 0, .int .i64 0], (some (.pair (.int .i64) (.int .i64))), true, false⟩
theorem ti36_ok : TInfoOk Try.prog 36 ti36 := ⟨Try.underlying36, ⟨(.agg #[.int .i64 0, .int .i64 0]), by kernel_rfl, rfl, rfl⟩, rfl, rfl, rfl, fun c h => (by first | (cases h; done) | (obtain rfl := Option.some.inj h; exact ⟨rfl, rfl, rfl⟩)), fun h => (by first | (cases h; done) | exact ⟨by kernel_rfl, by kernel_rfl, by kernel_rfl⟩)⟩
/-- struct { First impl.Angle; Second impl.Angle; Sequence impl.Sequence } -/
def ti37 : TInfo := ⟨(TypeDesc.struct #[{ name := "First", type := 36, offset := 0, embedded := false, tag := "", pkgPath := "", byteOffset := 0 }, { name := "Second", type := 36, offset := 2, embedded := false, tag := "", pkgPath := "", byteOffset := 16 }, { name := "Sequence", type := 27, offset := 4, embedded := false, tag := "", pkgPath := "", byteOffset := 32 }]), true, 6, 64, [.int .i64 0, .int .i64 0, .int .i64 0, .int .i64 0, .str ByteArray.empty, .str ByteArray.empty], (some (.pair (.pair (.int .i64) (.int .i64)) (.pair (.pair (.int .i64) (.int .i64)) (.pair .str .str)))), true, false⟩
theorem ti37_ok : TInfoOk Try.prog 37 ti37 := ⟨Try.underlying37, ⟨(.agg #[.int .i64 0, .int .i64 0, .int .i64 0, .int .i64 0, .string ByteArray.empty, .string ByteArray.empty]), by kernel_rfl, rfl, rfl⟩, rfl, rfl, rfl, fun c h => (by first | (cases h; done) | (obtain rfl := Option.some.inj h; exact ⟨rfl, rfl, rfl⟩)), fun h => (by first | (cases h; done) | exact ⟨by kernel_rfl, by kernel_rfl, by kernel_rfl⟩)⟩
/-- impl.Desk = loop.example/g01234/impl.Desk -/
def ti38 : TInfo := ⟨(TypeDesc.struct #[{ name := "First", type := 36, offset := 0, embedded := false, tag := "", pkgPath := "", byteOffset := 0 }, { name := "Second", type := 36, offset := 2, embedded := false, tag := "", pkgPath := "", byteOffset := 16 }, { name := "Sequence", type := 27, offset := 4, embedded := false, tag := "", pkgPath := "", byteOffset := 32 }]), true, 6, 64, [.int .i64 0, .int .i64 0, .int .i64 0, .int .i64 0, .str ByteArray.empty, .str ByteArray.empty], (some (.pair (.pair (.int .i64) (.int .i64)) (.pair (.pair (.int .i64) (.int .i64)) (.pair .str .str)))), true, false⟩
theorem ti38_ok : TInfoOk Try.prog 38 ti38 := ⟨Try.underlying38, ⟨(.agg #[.int .i64 0, .int .i64 0, .int .i64 0, .int .i64 0, .string ByteArray.empty, .string ByteArray.empty]), by kernel_rfl, rfl, rfl⟩, rfl, rfl, rfl, fun c h => (by first | (cases h; done) | (obtain rfl := Option.some.inj h; exact ⟨rfl, rfl, rfl⟩)), fun h => (by first | (cases h; done) | exact ⟨by kernel_rfl, by kernel_rfl, by kernel_rfl⟩)⟩
/-- func(laws.Desk) impl.Desk -/
def ti39 : TInfo := ⟨(TypeDesc.func #[33] #[38] false), false, 1, 8, [.raw .nilFunc], none, false, false⟩
theorem ti39_ok : TInfoOk Try.prog 39 ti39 := ⟨Try.underlying39, ⟨(.nilFunc), by kernel_rfl, rfl, rfl⟩, rfl, rfl, rfl, fun c h => (by first | (cases h; done) | (obtain rfl := Option.some.inj h; exact ⟨rfl, rfl, rfl⟩)), fun h => (by first | (cases h; done) | exact ⟨by kernel_rfl, by kernel_rfl, by kernel_rfl⟩)⟩
/-- func(laws.Desk) bool -/
def ti40 : TInfo := ⟨(TypeDesc.func #[33] #[4] false), false, 1, 8, [.raw .nilFunc], none, false, false⟩
theorem ti40_ok : TInfoOk Try.prog 40 ti40 := ⟨Try.underlying40, ⟨(.nilFunc), by kernel_rfl, rfl, rfl⟩, rfl, rfl, rfl, fun c h => (by first | (cases h; done) | (obtain rfl := Option.some.inj h; exact ⟨rfl, rfl, rfl⟩)), fun h => (by first | (cases h; done) | exact ⟨by kernel_rfl, by kernel_rfl, by kernel_rfl⟩)⟩
/-- func(string) (impl.Sequence, int64) -/
def ti42 : TInfo := ⟨(TypeDesc.func #[9] #[27, 2] false), false, 1, 8, [.raw .nilFunc], none, false, false⟩
theorem ti42_ok : TInfoOk Try.prog 42 ti42 := ⟨Try.underlying42, ⟨(.nilFunc), by kernel_rfl, rfl, rfl⟩, rfl, rfl, rfl, fun c h => (by first | (cases h; done) | (obtain rfl := Option.some.inj h; exact ⟨rfl, rfl, rfl⟩)), fun h => (by first | (cases h; done) | exact ⟨by kernel_rfl, by kernel_rfl, by kernel_rfl⟩)⟩
/-- func(impl.Sequence, impl.Sequence) bool -/
def ti43 : TInfo := ⟨(TypeDesc.func #[27, 27] #[4] false), false, 1, 8, [.raw .nilFunc], none, false, false⟩
theorem ti43_ok : TInfoOk Try.prog 43 ti43 := ⟨Try.underlying43, ⟨(.nilFunc), by kernel_rfl, rfl, rfl⟩, rfl, rfl, rfl, fun c h => (by first | (cases h; done) | (obtain rfl := Option.some.inj h; exact ⟨rfl, rfl, rfl⟩)), fun h => (by first | (cases h; done) | exact ⟨by kernel_rfl, by kernel_rfl, by kernel_rfl⟩)⟩
/-- func(string) bool -/
def ti44 : TInfo := ⟨(TypeDesc.func #[9] #[4] false), false, 1, 8, [.raw .nilFunc], none, false, false⟩
theorem ti44_ok : TInfoOk Try.prog 44 ti44 := ⟨Try.underlying44, ⟨(.nilFunc), by kernel_rfl, rfl, rfl⟩, rfl, rfl, rfl, fun c h => (by first | (cases h; done) | (obtain rfl := Option.some.inj h; exact ⟨rfl, rfl, rfl⟩)), fun h => (by first | (cases h; done) | exact ⟨by kernel_rfl, by kernel_rfl, by kernel_rfl⟩)⟩
/-- func(impl.Angle, impl.Angle, int64, int64, int64) (bool, int64) -/
def ti46 : TInfo := ⟨(TypeDesc.func #[36, 36, 2, 2, 2] #[4, 2] false), false, 1, 8, [.raw .nilFunc], none, false, false⟩
theorem ti46_ok : TInfoOk Try.prog 46 ti46 := ⟨Try.underlying46, ⟨(.nilFunc), by kernel_rfl, rfl, rfl⟩, rfl, rfl, rfl, fun c h => (by first | (cases h; done) | (obtain rfl := Option.some.inj h; exact ⟨rfl, rfl, rfl⟩)), fun h => (by first | (cases h; done) | exact ⟨by kernel_rfl, by kernel_rfl, by kernel_rfl⟩)⟩
/-- func(laws.Angle) impl.Angle -/
def ti47 : TInfo := ⟨(TypeDesc.func #[31] #[36] false), false, 1, 8, [.raw .nilFunc], none, false, false⟩
theorem ti47_ok : TInfoOk Try.prog 47 ti47 := ⟨Try.underlying47, ⟨(.nilFunc), by kernel_rfl, rfl, rfl⟩, rfl, rfl, rfl, fun c h => (by first | (cases h; done) | (obtain rfl := Option.some.inj h; exact ⟨rfl, rfl, rfl⟩)), fun h => (by first | (cases h; done) | exact ⟨by kernel_rfl, by kernel_rfl, by kernel_rfl⟩)⟩
/-- func(laws.Angle, laws.Angle, int64, int64, int64) bool -/
def ti48 : TInfo := ⟨(TypeDesc.func #[31, 31, 2, 2, 2] #[4] false), false, 1, 8, [.raw .nilFunc], none, false, false⟩
theorem ti48_ok : TInfoOk Try.prog 48 ti48 := ⟨Try.underlying48, ⟨(.nilFunc), by kernel_rfl, rfl, rfl⟩, rfl, rfl, rfl, fun c h => (by first | (cases h; done) | (obtain rfl := Option.some.inj h; exact ⟨rfl, rfl, rfl⟩)), fun h => (by first | (cases h; done) | exact ⟨by kernel_rfl, by kernel_rfl, by kernel_rfl⟩)⟩
/-- func(impl.Angle, impl.Angle, int64) (int64, int64) -/
def ti50 : TInfo := ⟨(TypeDesc.func #[36, 36, 2] #[2, 2] false), false, 1, 8, [.raw .nilFunc], none, false, false⟩
theorem ti50_ok : TInfoOk Try.prog 50 ti50 := ⟨Try.underlying50, ⟨(.nilFunc), by kernel_rfl, rfl, rfl⟩, rfl, rfl, rfl, fun c h => (by first | (cases h; done) | (obtain rfl := Option.some.inj h; exact ⟨rfl, rfl, rfl⟩)), fun h => (by first | (cases h; done) | exact ⟨by kernel_rfl, by kernel_rfl, by kernel_rfl⟩)⟩
/-- func(laws.Angle, laws.Angle, int64) bool -/
def ti51 : TInfo := ⟨(TypeDesc.func #[31, 31, 2] #[4] false), false, 1, 8, [.raw .nilFunc], none, false, false⟩
theorem ti51_ok : TInfoOk Try.prog 51 ti51 := ⟨Try.underlying51, ⟨(.nilFunc), by kernel_rfl, rfl, rfl⟩, rfl, rfl, rfl, fun c h => (by first | (cases h; done) | (obtain rfl := Option.some.inj h; exact ⟨rfl, rfl, rfl⟩)), fun h => (by first | (cases h; done) | exact ⟨by kernel_rfl, by kernel_rfl, by kernel_rfl⟩)⟩
/-- []int64 -/
def ti52 : TInfo := ⟨(TypeDesc.slice 2), false, 1, 24, [.raw (.slice none 0 0)], none, false, false⟩
theorem ti52_ok : TInfoOk Try.prog 52 ti52 := ⟨Try.underlying52, ⟨((.slice none 0 0)), by kernel_rfl, rfl, rfl⟩, rfl, rfl, rfl, fun c h => (by first | (cases h; done) | (obtain rfl := Option.some.inj h; exact ⟨rfl, rfl, rfl⟩)), fun h => (by first | (cases h; done) | exact ⟨by kernel_rfl, by kernel_rfl, by kernel_rfl⟩)⟩
/-- func(impl.Angle, int64) ([]int64, int64) -/
def ti54 : TInfo := ⟨(TypeDesc.func #[36, 2] #[52, 2] false), false, 1, 8, [.raw .nilFunc], none, false, false⟩
theorem ti54_ok : TInfoOk Try.prog 54 ti54 := ⟨Try.underlying54, ⟨(.nilFunc), by kernel_rfl, rfl, rfl⟩, rfl, rfl, rfl, fun c h => (by first | (cases h; done) | (obtain rfl := Option.some.inj h; exact ⟨rfl, rfl, rfl⟩)), fun h => (by first | (cases h; done) | exact ⟨by kernel_rfl, by kernel_rfl, by kernel_rfl⟩)⟩
/-- func([]int64, []int64) bool -/
def ti55 : TInfo := ⟨(TypeDesc.func #[52, 52] #[4] false), false, 1, 8, [.raw .nilFunc], none, false, false⟩
theorem ti55_ok : TInfoOk Try.prog 55 ti55 := ⟨Try.underlying55, ⟨(.nilFunc), by kernel_rfl, rfl, rfl⟩, rfl, rfl, rfl, fun c h => (by first | (cases h; done) | (obtain rfl := Option.some.inj h; exact ⟨rfl, rfl, rfl⟩)), fun h => (by first | (cases h; done) | exact ⟨by kernel_rfl, by kernel_rfl, by kernel_rfl⟩)⟩
/-- func([]int64, int) int -/
def ti56 : TInfo := ⟨(TypeDesc.func #[52, 3] #[3] false), false, 1, 8, [.raw .nilFunc], none, false, false⟩
theorem ti56_ok : TInfoOk Try.prog 56 ti56 := ⟨Try.underlying56, ⟨(.nilFunc), by kernel_rfl, rfl, rfl⟩, rfl, rfl, rfl, fun c h => (by first | (cases h; done) | (obtain rfl := Option.some.inj h; exact ⟨rfl, rfl, rfl⟩)), fun h => (by first | (cases h; done) | exact ⟨by kernel_rfl, by kernel_rfl, by kernel_rfl⟩)⟩
/-- func(laws.Angle, int64) bool -/
def ti57 : TInfo := ⟨(TypeDesc.func #[31, 2] #[4] false), false, 1, 8, [.raw .nilFunc], none, false, false⟩
theorem ti57_ok : TInfoOk Try.prog 57 ti57 := ⟨Try.underlying57, ⟨(.nilFunc), by kernel_rfl, rfl, rfl⟩, rfl, rfl, rfl, fun c h => (by first | (cases h; done) | (obtain rfl := Option.some.inj h; exact ⟨rfl, rfl, rfl⟩)), fun h => (by first | (cases h; done) | exact ⟨by kernel_rfl, by kernel_rfl, by kernel_rfl⟩)⟩
/-- [][]int64 -/
def ti58 : TInfo := ⟨(TypeDesc.slice 52), false, 1, 24, [.raw (.slice none 0 0)], none, false, false⟩
theorem ti58_ok : TInfoOk Try.prog 58 ti58 := ⟨Try.underlying58, ⟨((.slice none 0 0)), by kernel_rfl, rfl, rfl⟩, rfl, rfl, rfl, fun c h => (by first | (cases h; done) | (obtain rfl := Option.some.inj h; exact ⟨rfl, rfl, rfl⟩)), fun h => (by first | (cases h; done) | exact ⟨by kernel_rfl, by kernel_rfl, by kernel_rfl⟩)⟩
/-- func(impl.Angle, int64) ([][]int64, int64) -/
def ti60 : TInfo := ⟨(TypeDesc.func #[36, 2] #[58, 2] false), false, 1, 8, [.raw .nilFunc], none, false, false⟩
theorem ti60_ok : TInfoOk Try.prog 60 ti60 := ⟨Try.underlying60, ⟨(.nilFunc), by kernel_rfl, rfl, rfl⟩, rfl, rfl, rfl, fun c h => (by first | (cases h; done) | (obtain rfl := Option.some.inj h; exact ⟨rfl, rfl, rfl⟩)), fun h => (by first | (cases h; done) | exact ⟨by kernel_rfl, by kernel_rfl, by kernel_rfl⟩)⟩
/-- func([][]int64, [][]int64) bool -/
def ti61 : TInfo := ⟨(TypeDesc.func #[58, 58] #[4] false), false, 1, 8, [.raw .nilFunc], none, false, false⟩
theorem ti61_ok : TInfoOk Try.prog 61 ti61 := ⟨Try.underlying61, ⟨(.nilFunc), by kernel_rfl, rfl, rfl⟩, rfl, rfl, rfl, fun c h => (by first | (cases h; done) | (obtain rfl := Option.some.inj h; exact ⟨rfl, rfl, rfl⟩)), fun h => (by first | (cases h; done) | exact ⟨by kernel_rfl, by kernel_rfl, by kernel_rfl⟩)⟩
/-- func([][]int64, int) int -/
def ti62 : TInfo := ⟨(TypeDesc.func #[58, 3] #[3] false), false, 1, 8, [.raw .nilFunc], none, false, false⟩
theorem ti62_ok : TInfoOk Try.prog 62 ti62 := ⟨Try.underlying62, ⟨(.nilFunc), by kernel_rfl, rfl, rfl⟩, rfl, rfl, rfl, fun c h => (by first | (cases h; done) | (obtain rfl := Option.some.inj h; exact ⟨rfl, rfl, rfl⟩)), fun h => (by first | (cases h; done) | exact ⟨by kernel_rfl, by kernel_rfl, by kernel_rfl⟩)⟩
/-- func(impl.Angle, impl.Angle, int64) ([][]int64, int64) -/
def ti63 : TInfo := ⟨(TypeDesc.func #[36, 36, 2] #[58, 2] false), false, 1, 8, [.raw .nilFunc], none, false, false⟩
theorem ti63_ok : TInfoOk Try.prog 63 ti63 := ⟨Try.underlying63, ⟨(.nilFunc), by kernel_rfl, rfl, rfl⟩, rfl, rfl, rfl, fun c h => (by first | (cases h; done) | (obtain rfl := Option.some.inj h; exact ⟨rfl, rfl, rfl⟩)), fun h => (by first | (cases h; done) | exact ⟨by kernel_rfl, by kernel_rfl, by kernel_rfl⟩)⟩
/-- []uint8 -/
def ti64 : TInfo := ⟨(TypeDesc.slice 5), false, 1, 24, [.raw (.slice none 0 0)], none, false, false⟩
theorem ti64_ok : TInfoOk Try.prog 64 ti64 := ⟨Try.underlying64, ⟨((.slice none 0 0)), by kernel_rfl, rfl, rfl⟩, rfl, rfl, rfl, fun c h => (by first | (cases h; done) | (obtain rfl := Option.some.inj h; exact ⟨rfl, rfl, rfl⟩)), fun h => (by first | (cases h; done) | exact ⟨by kernel_rfl, by kernel_rfl, by kernel_rfl⟩)⟩
/-- func([]uint8) bool -/
def ti65 : TInfo := ⟨(TypeDesc.func #[64] #[4] false), false, 1, 8, [.raw .nilFunc], none, false, false⟩
theorem ti65_ok : TInfoOk Try.prog 65 ti65 := ⟨Try.underlying65, ⟨(.nilFunc), by kernel_rfl, rfl, rfl⟩, rfl, rfl, rfl, fun c h => (by first | (cases h; done) | (obtain rfl := Option.some.inj h; exact ⟨rfl, rfl, rfl⟩)), fun h => (by first | (cases h; done) | exact ⟨by kernel_rfl, by kernel_rfl, by kernel_rfl⟩)⟩
/-- func([]uint8) (impl.Angle, int64) -/
def ti67 : TInfo := ⟨(TypeDesc.func #[64] #[36, 2] false), false, 1, 8, [.raw .nilFunc], none, false, false⟩
theorem ti67_ok : TInfoOk Try.prog 67 ti67 := ⟨Try.underlying67, ⟨(.nilFunc), by kernel_rfl, rfl, rfl⟩, rfl, rfl, rfl, fun c h => (by first | (cases h; done) | (obtain rfl := Option.some.inj h; exact ⟨rfl, rfl, rfl⟩)), fun h => (by first | (cases h; done) | exact ⟨by kernel_rfl, by kernel_rfl, by kernel_rfl⟩)⟩
/-- func([]uint8) (impl.Angle, impl.Angle, int64) -/
def ti69 : TInfo := ⟨(TypeDesc.func #[64] #[36, 36, 2] false), false, 1, 8, [.raw .nilFunc], none, false, false⟩
theorem ti69_ok : TInfoOk Try.prog 69 ti69 := ⟨Try.underlying69, ⟨(.nilFunc), by kernel_rfl, rfl, rfl⟩, rfl, rfl, rfl, fun c h => (by first | (cases h; done) | (obtain rfl := Option.some.inj h; exact ⟨rfl, rfl, rfl⟩)), fun h => (by first | (cases h; done) | exact ⟨by kernel_rfl, by kernel_rfl, by kernel_rfl⟩)⟩
/-- func([]uint8) (impl.Angle, impl.Angle, int64, int64, int64) -/
def ti71 : TInfo := ⟨(TypeDesc.func #[64] #[36, 36, 2, 2, 2] false), false, 1, 8, [.raw .nilFunc], none, false, false⟩
theorem ti71_ok : TInfoOk Try.prog 71 ti71 := ⟨Try.underlying71, ⟨(.nilFunc), by kernel_rfl, rfl, rfl⟩, rfl, rfl, rfl, fun c h => (by first | (cases h; done) | (obtain rfl := Option.some.inj h; exact ⟨rfl, rfl, rfl⟩)), fun h => (by first | (cases h; done) | exact ⟨by kernel_rfl, by kernel_rfl, by kernel_rfl⟩)⟩
/-- func(int64, int64) (impl.Angle, int64) -/
def ti72 : TInfo := ⟨(TypeDesc.func #[2, 2] #[36, 2] false), false, 1, 8, [.raw .nilFunc], none, false, false⟩
theorem ti72_ok : TInfoOk Try.prog 72 ti72 := ⟨Try.underlying72, ⟨(.nilFunc), by kernel_rfl, rfl, rfl⟩, rfl, rfl, rfl, fun c h => (by first | (cases h; done) | (obtain rfl := Option.some.inj h; exact ⟨rfl, rfl, rfl⟩)), fun h => (by first | (cases h; done) | exact ⟨by kernel_rfl, by kernel_rfl, by kernel_rfl⟩)⟩
/-- func(impl.Angle, impl.Angle) (string, int64) -/
def ti73 : TInfo := ⟨(TypeDesc.func #[36, 36] #[9, 2] false), false, 1, 8, [.raw .nilFunc], none, false, false⟩
theorem ti73_ok : TInfoOk Try.prog 73 ti73 := ⟨Try.underlying73, ⟨(.nilFunc), by kernel_rfl, rfl, rfl⟩, rfl, rfl, rfl, fun c h => (by first | (cases h; done) | (obtain rfl := Option.some.inj h; exact ⟨rfl, rfl, rfl⟩)), fun h => (by first | (cases h; done) | exact ⟨by kernel_rfl, by kernel_rfl, by kernel_rfl⟩)⟩
/-- func(impl.Sequence) bool -/
def ti74 : TInfo := ⟨(TypeDesc.func #[27] #[4] false), false, 1, 8, [.raw .nilFunc], none, false, false⟩
theorem ti74_ok : TInfoOk Try.prog 74 ti74 := ⟨Try.underlying74, ⟨(.nilFunc), by kernel_rfl, rfl, rfl⟩, rfl, rfl, rfl, fun c h => (by first | (cases h; done) | (obtain rfl := Option.some.inj h; exact ⟨rfl, rfl, rfl⟩)), fun h => (by first | (cases h; done) | exact ⟨by kernel_rfl, by kernel_rfl, by kernel_rfl⟩)⟩
/-- func(impl.Sequence) string -/
def ti75 : TInfo := ⟨(TypeDesc.func #[27] #[9] false), false, 1, 8, [.raw .nilFunc], none, false, false⟩
theorem ti75_ok : TInfoOk Try.prog 75 ti75 := ⟨Try.underlying75, ⟨(.nilFunc), by kernel_rfl, rfl, rfl⟩, rfl, rfl, rfl, fun c h => (by first | (cases h; done) | (obtain rfl := Option.some.inj h; exact ⟨rfl, rfl, rfl⟩)), fun h => (by first | (cases h; done) | exact ⟨by kernel_rfl, by kernel_rfl, by kernel_rfl⟩)⟩
/-- func(bool, ...impl.Sequence) int64 -/
def ti76 : TInfo := ⟨(TypeDesc.func #[4, 110] #[2] true), false, 1, 8, [.raw .nilFunc], none, false, false⟩
theorem ti76_ok : TInfoOk Try.prog 76 ti76 := ⟨Try.underlying76, ⟨(.nilFunc), by kernel_rfl, rfl, rfl⟩, rfl, rfl, rfl, fun c h => (by first | (cases h; done) | (obtain rfl := Option.some.inj h; exact ⟨rfl, rfl, rfl⟩)), fun h => (by first | (cases h; done) | exact ⟨by kernel_rfl, by kernel_rfl, by kernel_rfl⟩)⟩
/-- func() string -/
def ti77 : TInfo := ⟨(TypeDesc.func #[] #[9] false), false, 1, 8, [.raw .nilFunc], none, false, false⟩
theorem ti77_ok : TInfoOk Try.prog 77 ti77 := ⟨Try.underlying77, ⟨(.nilFunc), by kernel_rfl, rfl, rfl⟩, rfl, rfl, rfl, fun c h => (by first | (cases h; done) | (obtain rfl := Option.some.inj h; exact ⟨rfl, rfl, rfl⟩)), fun h => (by first | (cases h; done) | exact ⟨by kernel_rfl, by kernel_rfl, by kernel_rfl⟩)⟩
/-- func(impl.Angle) bool -/
def ti78 : TInfo := ⟨(TypeDesc.func #[36] #[4] false), false, 1, 8, [.raw .nilFunc], none, false, false⟩
theorem ti78_ok : TInfoOk Try.prog 78 ti78 := ⟨Try.underlying78, ⟨(.nilFunc), by kernel_rfl, rfl, rfl⟩, rfl, rfl, rfl, fun c h => (by first | (cases h; done) | (obtain rfl := Option.some.inj h; exact ⟨rfl, rfl, rfl⟩)), fun h => (by first | (cases h; done) | exact ⟨by kernel_rfl, by kernel_rfl, by kernel_rfl⟩)⟩
/-- func(string) (impl.Sequence, bool) -/
def ti80 : TInfo := ⟨(TypeDesc.func #[9] #[27, 4] false), false, 1, 8, [.raw .nilFunc], none, false, false⟩
theorem ti80_ok : TInfoOk Try.prog 80 ti80 := ⟨Try.underlying80, ⟨(.nilFunc), by kernel_rfl, rfl, rfl⟩, rfl, rfl, rfl, fun c h => (by first | (cases h; done) | (obtain rfl := Option.some.inj h; exact ⟨rfl, rfl, rfl⟩)), fun h => (by first | (cases h; done) | exact ⟨by kernel_rfl, by kernel_rfl, by kernel_rfl⟩)⟩
/-- func(string, string) (string, string, bool) -/
def ti82 : TInfo := ⟨(TypeDesc.func #[9, 9] #[9, 9, 4] false), false, 1, 8, [.raw .nilFunc], none, false, false⟩
theorem ti82_ok : TInfoOk Try.prog 82 ti82 := ⟨Try.underlying82, ⟨(.nilFunc), by kernel_rfl, rfl, rfl⟩, rfl, rfl, rfl, fun c h => (by first | (cases h; done) | (obtain rfl := Option.some.inj h; exact ⟨rfl, rfl, rfl⟩)), fun h => (by first | (cases h; done) | exact ⟨by kernel_rfl, by kernel_rfl, by kernel_rfl⟩)⟩
/-- func(string, string) string -/
def ti83 : TInfo := ⟨(TypeDesc.func #[9, 9] #[9] false), false, 1, 8, [.raw .nilFunc], none, false, false⟩
theorem ti83_ok : TInfoOk Try.prog 83 ti83 := ⟨Try.underlying83, ⟨(.nilFunc), by kernel_rfl, rfl, rfl⟩, rfl, rfl, rfl, fun c h => (by first | (cases h; done) | (obtain rfl := Option.some.inj h; exact ⟨rfl, rfl, rfl⟩)), fun h => (by first | (cases h; done) | exact ⟨by kernel_rfl, by kernel_rfl, by kernel_rfl⟩)⟩
/-- func(int64, ...impl.Angle) int64 -/
def ti84 : TInfo := ⟨(TypeDesc.func #[2, 116] #[2] true), false, 1, 8, [.raw .nilFunc], none, false, false⟩
theorem ti84_ok : TInfoOk Try.prog 84 ti84 := ⟨Try.underlying84, ⟨(.nilFunc), by kernel_rfl, rfl, rfl⟩, rfl, rfl, rfl, fun c h => (by first | (cases h; done) | (obtain rfl := Option.some.inj h; exact ⟨rfl, rfl, rfl⟩)), fun h => (by first | (cases h; done) | exact ⟨by kernel_rfl, by kernel_rfl, by kernel_rfl⟩)⟩
/-- func(int64, int64, int64) bool -/
def ti85 : TInfo := ⟨(TypeDesc.func #[2, 2, 2] #[4] false), false, 1, 8, [.raw .nilFunc], none, false, false⟩
theorem ti85_ok : TInfoOk Try.prog 85 ti85 := ⟨Try.underlying85, ⟨(.nilFunc), by kernel_rfl, rfl, rfl⟩, rfl, rfl, rfl, fun c h => (by first | (cases h; done) | (obtain rfl := Option.some.inj h; exact ⟨rfl, rfl, rfl⟩)), fun h => (by first | (cases h; done) | exact ⟨by kernel_rfl, by kernel_rfl, by kernel_rfl⟩)⟩
/-- func(int64, ...impl.Angle) ([]int64, bool) -/
def ti87 : TInfo := ⟨(TypeDesc.func #[2, 116] #[52, 4] true), false, 1, 8, [.raw .nilFunc], none, false, false⟩
theorem ti87_ok : TInfoOk Try.prog 87 ti87 := ⟨Try.underlying87, ⟨(.nilFunc), by kernel_rfl, rfl, rfl⟩, rfl, rfl, rfl, fun c h => (by first | (cases h; done) | (obtain rfl := Option.some.inj h; exact ⟨rfl, rfl, rfl⟩)), fun h => (by first | (cases h; done) | exact ⟨by kernel_rfl, by kernel_rfl, by kernel_rfl⟩)⟩
/-- func(bool, ...impl.Angle) int64 -/
def ti88 : TInfo := ⟨(TypeDesc.func #[4, 116] #[2] true), false, 1, 8, [.raw .nilFunc], none, false, false⟩
theorem ti88_ok : TInfoOk Try.prog 88 ti88 := ⟨Try.underlying88, ⟨(.nilFunc), by kernel_rfl, rfl, rfl⟩, rfl, rfl, rfl, fun c h => (by first | (cases h; done) | (obtain rfl := Option.some.inj h; exact ⟨rfl, rfl, rfl⟩)), fun h => (by first | (cases h; done) | exact ⟨by kernel_rfl, by kernel_rfl, by kernel_rfl⟩)⟩
/-- func(int64) bool -/
def ti89 : TInfo := ⟨(TypeDesc.func #[2] #[4] false), false, 1, 8, [.raw .nilFunc], none, false, false⟩
theorem ti89_ok : TInfoOk Try.prog 89 ti89 := ⟨Try.underlying89, ⟨(.nilFunc), by kernel_rfl, rfl, rfl⟩, rfl, rfl, rfl, fun c h => (by first | (cases h; done) | (obtain rfl := Option.some.inj h; exact ⟨rfl, rfl, rfl⟩)), fun h => (by first | (cases h; done) | exact ⟨by kernel_rfl, by kernel_rfl, by kernel_rfl⟩)⟩
/-- func([][]int64, func([]int64) bool) bool -/
def ti90 : TInfo := ⟨(TypeDesc.func #[58, 93] #[4] false), false, 1, 8, [.raw .nilFunc], none, false, false⟩
theorem ti90_ok : TInfoOk Try.prog 90 ti90 := ⟨Try.underlying90, ⟨(.nilFunc), by kernel_rfl, rfl, rfl⟩, rfl, rfl, rfl, fun c h => (by first | (cases h; done) | (obtain rfl := Option.some.inj h; exact ⟨rfl, rfl, rfl⟩)), fun h => (by first | (cases h; done) | exact ⟨by kernel_rfl, by kernel_rfl, by kernel_rfl⟩)⟩
/-- func(impl.Angle, impl.Angle, int64) [][]int64 -/
def ti91 : TInfo := ⟨(TypeDesc.func #[36, 36, 2] #[58] false), false, 1, 8, [.raw .nilFunc], none, false, false⟩
theorem ti91_ok : TInfoOk Try.prog 91 ti91 := ⟨Try.underlying91, ⟨(.nilFunc), by kernel_rfl, rfl, rfl⟩, rfl, rfl, rfl, fun c h => (by first | (cases h; done) | (obtain rfl := Option.some.inj h; exact ⟨rfl, rfl, rfl⟩)), fun h => (by first | (cases h; done) | exact ⟨by kernel_rfl, by kernel_rfl, by kernel_rfl⟩)⟩
/-- func([]int64, int64) bool -/
def ti92 : TInfo := ⟨(TypeDesc.func #[52, 2] #[4] false), false, 1, 8, [.raw .nilFunc], none, false, false⟩
theorem ti92_ok : TInfoOk Try.prog 92 ti92 := ⟨Try.underlying92, ⟨(.nilFunc), by kernel_rfl, rfl, rfl⟩, rfl, rfl, rfl, fun c h => (by first | (cases h; done) | (obtain rfl := Option.some.inj h; exact ⟨rfl, rfl, rfl⟩)), fun h => (by first | (cases h; done) | exact ⟨by kernel_rfl, by kernel_rfl, by kernel_rfl⟩)⟩
/-- func([]int64) bool -/
def ti93 : TInfo := ⟨(TypeDesc.func #[52] #[4] false), false, 1, 8, [.raw .nilFunc], none, false, false⟩
theorem ti93_ok : TInfoOk Try.prog 93 ti93 := ⟨Try.underlying93, ⟨(.nilFunc), by kernel_rfl, rfl, rfl⟩, rfl, rfl, rfl, fun c h => (by first | (cases h; done) | (obtain rfl := Option.some.inj h; exact ⟨rfl, rfl, rfl⟩)), fun h => (by first | (cases h; done) | exact ⟨by kernel_rfl, by kernel_rfl, by kernel_rfl⟩)⟩
/-- func([]int64) int64 -/
def ti94 : TInfo := ⟨(TypeDesc.func #[52] #[2] false), false, 1, 8, [.raw .nilFunc], none, false, false⟩
theorem ti94_ok : TInfoOk Try.prog 94 ti94 := ⟨Try.underlying94, ⟨(.nilFunc), by kernel_rfl, rfl, rfl⟩, rfl, rfl, rfl, fun c h => (by first | (cases h; done) | (obtain rfl := Option.some.inj h; exact ⟨rfl, rfl, rfl⟩)), fun h => (by first | (cases h; done) | exact ⟨by kernel_rfl, by kernel_rfl, by kernel_rfl⟩)⟩
/-- func([]int64) []int64 -/
def ti95 : TInfo := ⟨(TypeDesc.func #[52] #[52] false), false, 1, 8, [.raw .nilFunc], none, false, false⟩
theorem ti95_ok : TInfoOk Try.prog 95 ti95 := ⟨Try.underlying95, ⟨(.nilFunc), by kernel_rfl, rfl, rfl⟩, rfl, rfl, rfl, fun c h => (by first | (cases h; done) | (obtain rfl := Option.some.inj h; exact ⟨rfl, rfl, rfl⟩)), fun h => (by first | (cases h; done) | exact ⟨by kernel_rfl, by kernel_rfl, by kernel_rfl⟩)⟩
/-- func([][]int64, int64) []int64 -/
def ti96 : TInfo := ⟨(TypeDesc.func #[58, 2] #[52] false), false, 1, 8, [.raw .nilFunc], none, false, false⟩
theorem ti96_ok : TInfoOk Try.prog 96 ti96 := ⟨Try.underlying96, ⟨(.nilFunc), by kernel_rfl, rfl, rfl⟩, rfl, rfl, rfl, fun c h => (by first | (cases h; done) | (obtain rfl := Option.some.inj h; exact ⟨rfl, rfl, rfl⟩)), fun h => (by first | (cases h; done) | exact ⟨by kernel_rfl, by kernel_rfl, by kernel_rfl⟩)⟩
/-- func(impl.Angle, int64) [][]int64 -/
def ti97 : TInfo := ⟨(TypeDesc.func #[36, 2] #[58] false), false, 1, 8, [.raw .nilFunc], none, false, false⟩
theorem ti97_ok : TInfoOk Try.prog 97 ti97 := ⟨Try.underlying97, ⟨(.nilFunc), by kernel_rfl, rfl, rfl⟩, rfl, rfl, rfl, fun c h => (by first | (cases h; done) | (obtain rfl := Option.some.inj h; exact ⟨rfl, rfl, rfl⟩)), fun h => (by first | (cases h; done) | exact ⟨by kernel_rfl, by kernel_rfl, by kernel_rfl⟩)⟩
/-- func([]int64) [][]int64 -/
def ti98 : TInfo := ⟨(TypeDesc.func #[52] #[58] false), false, 1, 8, [.raw .nilFunc], none, false, false⟩
theorem ti98_ok : TInfoOk Try.prog 98 ti98 := ⟨Try.underlying98, ⟨(.nilFunc), by kernel_rfl, rfl, rfl⟩, rfl, rfl, rfl, fun c h => (by first | (cases h; done) | (obtain rfl := Option.some.inj h; exact ⟨rfl, rfl, rfl⟩)), fun h => (by first | (cases h; done) | exact ⟨by kernel_rfl, by kernel_rfl, by kernel_rfl⟩)⟩
/-- func(*spec.l01Source) (impl.Angle, int64) -/
def ti99 : TInfo := ⟨(TypeDesc.func #[100] #[36, 2] false), false, 1, 8, [.raw .nilFunc], none, false, false⟩
theorem ti99_ok : TInfoOk Try.prog 99 ti99 := ⟨Try.underlying99, ⟨(.nilFunc), by kernel_rfl, rfl, rfl⟩, rfl, rfl, rfl, fun c h => (by first | (cases h; done) | (obtain rfl := Option.some.inj h; exact ⟨rfl, rfl, rfl⟩)), fun h => (by first | (cases h; done) | exact ⟨by kernel_rfl, by kernel_rfl, by kernel_rfl⟩)⟩
/-- *spec.l01Source -/
def ti100 : TInfo := ⟨(TypeDesc.pointer 128), false, 1, 8, [.raw (.pointer none)], none, false, false⟩
theorem ti100_ok : TInfoOk Try.prog 100 ti100 := ⟨Try.underlying100, ⟨((.pointer none)), by kernel_rfl, rfl, rfl⟩, rfl, rfl, rfl, fun c h => (by first | (cases h; done) | (obtain rfl := Option.some.inj h; exact ⟨rfl, rfl, rfl⟩)), fun h => (by first | (cases h; done) | exact ⟨by kernel_rfl, by kernel_rfl, by kernel_rfl⟩)⟩
/-- func([]uint8) *spec.l01Source -/
def ti101 : TInfo := ⟨(TypeDesc.func #[64] #[100] false), false, 1, 8, [.raw .nilFunc], none, false, false⟩
theorem ti101_ok : TInfoOk Try.prog 101 ti101 := ⟨Try.underlying101, ⟨(.nilFunc), by kernel_rfl, rfl, rfl⟩, rfl, rfl, rfl, fun c h => (by first | (cases h; done) | (obtain rfl := Option.some.inj h; exact ⟨rfl, rfl, rfl⟩)), fun h => (by first | (cases h; done) | exact ⟨by kernel_rfl, by kernel_rfl, by kernel_rfl⟩)⟩
/-- func(*spec.l01Source) impl.Angle -/
def ti102 : TInfo := ⟨(TypeDesc.func #[100] #[36] false), false, 1, 8, [.raw .nilFunc], none, false, false⟩
theorem ti102_ok : TInfoOk Try.prog 102 ti102 := ⟨Try.underlying102, ⟨(.nilFunc), by kernel_rfl, rfl, rfl⟩, rfl, rfl, rfl, fun c h => (by first | (cases h; done) | (obtain rfl := Option.some.inj h; exact ⟨rfl, rfl, rfl⟩)), fun h => (by first | (cases h; done) | exact ⟨by kernel_rfl, by kernel_rfl, by kernel_rfl⟩)⟩
/-- func(*spec.l01Source, int64) int64 -/
def ti103 : TInfo := ⟨(TypeDesc.func #[100, 2] #[2] false), false, 1, 8, [.raw .nilFunc], none, false, false⟩
theorem ti103_ok : TInfoOk Try.prog 103 ti103 := ⟨Try.underlying103, ⟨(.nilFunc), by kernel_rfl, rfl, rfl⟩, rfl, rfl, rfl, fun c h => (by first | (cases h; done) | (obtain rfl := Option.some.inj h; exact ⟨rfl, rfl, rfl⟩)), fun h => (by first | (cases h; done) | exact ⟨by kernel_rfl, by kernel_rfl, by kernel_rfl⟩)⟩
/-- func(impl.Angle) impl.Angle -/
def ti104 : TInfo := ⟨(TypeDesc.func #[36] #[36] false), false, 1, 8, [.raw .nilFunc], none, false, false⟩
theorem ti104_ok : TInfoOk Try.prog 104 ti104 := ⟨Try.underlying104, ⟨(.nilFunc), by kernel_rfl, rfl, rfl⟩, rfl, rfl, rfl, fun c h => (by first | (cases h; done) | (obtain rfl := Option.some.inj h; exact ⟨rfl, rfl, rfl⟩)), fun h => (by first | (cases h; done) | exact ⟨by kernel_rfl, by kernel_rfl, by kernel_rfl⟩)⟩
/-- func(impl.Angle) (impl.Angle, int64) -/
def ti105 : TInfo := ⟨(TypeDesc.func #[36] #[36, 2] false), false, 1, 8, [.raw .nilFunc], none, false, false⟩
theorem ti105_ok : TInfoOk Try.prog 105 ti105 := ⟨Try.underlying105, ⟨(.nilFunc), by kernel_rfl, rfl, rfl⟩, rfl, rfl, rfl, fun c h => (by first | (cases h; done) | (obtain rfl := Option.some.inj h; exact ⟨rfl, rfl, rfl⟩)), fun h => (by first | (cases h; done) | exact ⟨by kernel_rfl, by kernel_rfl, by kernel_rfl⟩)⟩
/-- func(int64, int64) impl.Angle -/
def ti106 : TInfo := ⟨(TypeDesc.func #[2, 2] #[36] false), false, 1, 8, [.raw .nilFunc], none, false, false⟩
theorem ti106_ok : TInfoOk Try.prog 106 ti106 := ⟨Try.underlying106, ⟨(.nilFunc), by kernel_rfl, rfl, rfl⟩, rfl, rfl, rfl, fun c h => (by first | (cases h; done) | (obtain rfl := Option.some.inj h; exact ⟨rfl, rfl, rfl⟩)), fun h => (by first | (cases h; done) | exact ⟨by kernel_rfl, by kernel_rfl, by kernel_rfl⟩)⟩
/-- func(...impl.Angle) int64 -/
def ti107 : TInfo := ⟨(TypeDesc.func #[116] #[2] true), false, 1, 8, [.raw .nilFunc], none, false, false⟩
theorem ti107_ok : TInfoOk Try.prog 107 ti107 := ⟨Try.underlying107, ⟨(.nilFunc), by kernel_rfl, rfl, rfl⟩, rfl, rfl, rfl, fun c h => (by first | (cases h; done) | (obtain rfl := Option.some.inj h; exact ⟨rfl, rfl, rfl⟩)), fun h => (by first | (cases h; done) | exact ⟨by kernel_rfl, by kernel_rfl, by kernel_rfl⟩)⟩
/-- func(impl.Angle, impl.Angle) uint8 -/
def ti108 : TInfo := ⟨(TypeDesc.func #[36, 36] #[5] false), false, 1, 8, [.raw .nilFunc], none, false, false⟩
theorem ti108_ok : TInfoOk Try.prog 108 ti108 := ⟨Try.underlying108, ⟨(.nilFunc), by kernel_rfl, rfl, rfl⟩, rfl, rfl, rfl, fun c h => (by first | (cases h; done) | (obtain rfl := Option.some.inj h; exact ⟨rfl, rfl, rfl⟩)), fun h => (by first | (cases h; done) | exact ⟨by kernel_rfl, by kernel_rfl, by kernel_rfl⟩)⟩
/-- func(string, string) impl.Sequence -/
def ti109 : TInfo := ⟨(TypeDesc.func #[9, 9] #[27] false), false, 1, 8, [.raw .nilFunc], none, false, false⟩
theorem ti109_ok : TInfoOk Try.prog 109 ti109 := ⟨Try.underlying109, ⟨(.nilFunc), by kernel_rfl, rfl, rfl⟩, rfl, rfl, rfl, fun c h => (by first | (cases h; done) | (obtain rfl := Option.some.inj h; exact ⟨rfl, rfl, rfl⟩)), fun h => (by first | (cases h; done) | exact ⟨by kernel_rfl, by kernel_rfl, by kernel_rfl⟩)⟩
/-- []impl.Sequence -/
def ti110 : TInfo := ⟨(TypeDesc.slice 27), false, 1, 24, [.raw (.slice none 0 0)], none, false, false⟩
theorem ti110_ok : TInfoOk Try.prog 110 ti110 := ⟨Try.underlying110, ⟨((.slice none 0 0)), by kernel_rfl, rfl, rfl⟩, rfl, rfl, rfl, fun c h => (by first | (cases h; done) | (obtain rfl := Option.some.inj h; exact ⟨rfl, rfl, rfl⟩)), fun h => (by first | (cases h; done) | exact ⟨by kernel_rfl, by kernel_rfl, by kernel_rfl⟩)⟩
/-- func([]impl.Sequence, func(impl.Sequence) bool) bool -/
def ti111 : TInfo := ⟨(TypeDesc.func #[110, 74] #[4] false), false, 1, 8, [.raw .nilFunc], none, false, false⟩
theorem ti111_ok : TInfoOk Try.prog 111 ti111 := ⟨Try.underlying111, ⟨(.nilFunc), by kernel_rfl, rfl, rfl⟩, rfl, rfl, rfl, fun c h => (by first | (cases h; done) | (obtain rfl := Option.some.inj h; exact ⟨rfl, rfl, rfl⟩)), fun h => (by first | (cases h; done) | exact ⟨by kernel_rfl, by kernel_rfl, by kernel_rfl⟩)⟩
/-- func(int64, int64) int64 -/
def ti112 : TInfo := ⟨(TypeDesc.func #[2, 2] #[2] false), false, 1, 8, [.raw .nilFunc], none, false, false⟩
theorem ti112_ok : TInfoOk Try.prog 112 ti112 := ⟨Try.underlying112, ⟨(.nilFunc), by kernel_rfl, rfl, rfl⟩, rfl, rfl, rfl, fun c h => (by first | (cases h; done) | (obtain rfl := Option.some.inj h; exact ⟨rfl, rfl, rfl⟩)), fun h => (by first | (cases h; done) | exact ⟨by kernel_rfl, by kernel_rfl, by kernel_rfl⟩)⟩
/-- func(string, string) bool -/
def ti113 : TInfo := ⟨(TypeDesc.func #[9, 9] #[4] false), false, 1, 8, [.raw .nilFunc], none, false, false⟩
theorem ti113_ok : TInfoOk Try.prog 113 ti113 := ⟨Try.underlying113, ⟨(.nilFunc), by kernel_rfl, rfl, rfl⟩, rfl, rfl, rfl, fun c h => (by first | (cases h; done) | (obtain rfl := Option.some.inj h; exact ⟨rfl, rfl, rfl⟩)), fun h => (by first | (cases h; done) | exact ⟨by kernel_rfl, by kernel_rfl, by kernel_rfl⟩)⟩
/-- []string -/
def ti114 : TInfo := ⟨(TypeDesc.slice 9), false, 1, 24, [.raw (.slice none 0 0)], none, false, false⟩
theorem ti114_ok : TInfoOk Try.prog 114 ti114 := ⟨Try.underlying114, ⟨((.slice none 0 0)), by kernel_rfl, rfl, rfl⟩, rfl, rfl, rfl, fun c h => (by first | (cases h; done) | (obtain rfl := Option.some.inj h; exact ⟨rfl, rfl, rfl⟩)), fun h => (by first | (cases h; done) | exact ⟨by kernel_rfl, by kernel_rfl, by kernel_rfl⟩)⟩
/-- func(string, uint8) []string -/
def ti115 : TInfo := ⟨(TypeDesc.func #[9, 5] #[114] false), false, 1, 8, [.raw .nilFunc], none, false, false⟩
theorem ti115_ok : TInfoOk Try.prog 115 ti115 := ⟨Try.underlying115, ⟨(.nilFunc), by kernel_rfl, rfl, rfl⟩, rfl, rfl, rfl, fun c h => (by first | (cases h; done) | (obtain rfl := Option.some.inj h; exact ⟨rfl, rfl, rfl⟩)), fun h => (by first | (cases h; done) | exact ⟨by kernel_rfl, by kernel_rfl, by kernel_rfl⟩)⟩
/-- []impl.Angle -/
def ti116 : TInfo := ⟨(TypeDesc.slice 36), false, 1, 24, [.raw (.slice none 0 0)], none, false, false⟩
theorem ti116_ok : TInfoOk Try.prog 116 ti116 := ⟨Try.underlying116, ⟨((.slice none 0 0)), by kernel_rfl, rfl, rfl⟩, rfl, rfl, rfl, fun c h => (by first | (cases h; done) | (obtain rfl := Option.some.inj h; exact ⟨rfl, rfl, rfl⟩)), fun h => (by first | (cases h; done) | exact ⟨by kernel_rfl, by kernel_rfl, by kernel_rfl⟩)⟩
/-- func(impl.Angle, int64, int64) ([]impl.Sequence, bool) -/
def ti118 : TInfo := ⟨(TypeDesc.func #[36, 2, 2] #[110, 4] false), false, 1, 8, [.raw .nilFunc], none, false, false⟩
theorem ti118_ok : TInfoOk Try.prog 118 ti118 := ⟨Try.underlying118, ⟨(.nilFunc), by kernel_rfl, rfl, rfl⟩, rfl, rfl, rfl, fun c h => (by first | (cases h; done) | (obtain rfl := Option.some.inj h; exact ⟨rfl, rfl, rfl⟩)), fun h => (by first | (cases h; done) | exact ⟨by kernel_rfl, by kernel_rfl, by kernel_rfl⟩)⟩
/-- func([]int64, []impl.Sequence) []int64 -/
def ti119 : TInfo := ⟨(TypeDesc.func #[52, 110] #[52] false), false, 1, 8, [.raw .nilFunc], none, false, false⟩
theorem ti119_ok : TInfoOk Try.prog 119 ti119 := ⟨Try.underlying119, ⟨(.nilFunc), by kernel_rfl, rfl, rfl⟩, rfl, rfl, rfl, fun c h => (by first | (cases h; done) | (obtain rfl := Option.some.inj h; exact ⟨rfl, rfl, rfl⟩)), fun h => (by first | (cases h; done) | exact ⟨by kernel_rfl, by kernel_rfl, by kernel_rfl⟩)⟩
/-- func([][]int64, func([]int64) bool) int -/
def ti120 : TInfo := ⟨(TypeDesc.func #[58, 93] #[3] false), false, 1, 8, [.raw .nilFunc], none, false, false⟩
theorem ti120_ok : TInfoOk Try.prog 120 ti120 := ⟨Try.underlying120, ⟨(.nilFunc), by kernel_rfl, rfl, rfl⟩, rfl, rfl, rfl, fun c h => (by first | (cases h; done) | (obtain rfl := Option.some.inj h; exact ⟨rfl, rfl, rfl⟩)), fun h => (by first | (cases h; done) | exact ⟨by kernel_rfl, by kernel_rfl, by kernel_rfl⟩)⟩
/-- func(int64, ...func(int64) impl.Sequence) [][]int64 -/
def ti121 : TInfo := ⟨(TypeDesc.func #[2, 137] #[58] true), false, 1, 8, [.raw .nilFunc], none, false, false⟩
theorem ti121_ok : TInfoOk Try.prog 121 ti121 := ⟨Try.underlying121, ⟨(.nilFunc), by kernel_rfl, rfl, rfl⟩, rfl, rfl, rfl, fun c h => (by first | (cases h; done) | (obtain rfl := Option.some.inj h; exact ⟨rfl, rfl, rfl⟩)), fun h => (by first | (cases h; done) | exact ⟨by kernel_rfl, by kernel_rfl, by kernel_rfl⟩)⟩
/-- func(int64) impl.Sequence -/
def ti122 : TInfo := ⟨(TypeDesc.func #[2] #[27] false), false, 1, 8, [.raw .nilFunc], none, false, false⟩
theorem ti122_ok : TInfoOk Try.prog 122 ti122 := ⟨Try.underlying122, ⟨(.nilFunc), by kernel_rfl, rfl, rfl⟩, rfl, rfl, rfl, fun c h => (by first | (cases h; done) | (obtain rfl := Option.some.inj h; exact ⟨rfl, rfl, rfl⟩)), fun h => (by first | (cases h; done) | exact ⟨by kernel_rfl, by kernel_rfl, by kernel_rfl⟩)⟩
/-- func(impl.Angle, int64, int64) func(int64) impl.Sequence -/
def ti123 : TInfo := ⟨(TypeDesc.func #[36, 2, 2] #[122] false), false, 1, 8, [.raw .nilFunc], none, false, false⟩
theorem ti123_ok : TInfoOk Try.prog 123 ti123 := ⟨Try.underlying123, ⟨(.nilFunc), by kernel_rfl, rfl, rfl⟩, rfl, rfl, rfl, fun c h => (by first | (cases h; done) | (obtain rfl := Option.some.inj h; exact ⟨rfl, rfl, rfl⟩)), fun h => (by first | (cases h; done) | exact ⟨by kernel_rfl, by kernel_rfl, by kernel_rfl⟩)⟩
/-- func([]int64, int64) int -/
def ti124 : TInfo := ⟨(TypeDesc.func #[52, 2] #[3] false), false, 1, 8, [.raw .nilFunc], none, false, false⟩
theorem ti124_ok : TInfoOk Try.prog 124 ti124 := ⟨Try.underlying124, ⟨(.nilFunc), by kernel_rfl, rfl, rfl⟩, rfl, rfl, rfl, fun c h => (by first | (cases h; done) | (obtain rfl := Option.some.inj h; exact ⟨rfl, rfl, rfl⟩)), fun h => (by first | (cases h; done) | exact ⟨by kernel_rfl, by kernel_rfl, by kernel_rfl⟩)⟩
/-- func(*spec.l01Source, ...int64) int64 -/
def ti125 : TInfo := ⟨(TypeDesc.func #[100, 52] #[2] true), false, 1, 8, [.raw .nilFunc], none, false, false⟩
theorem ti125_ok : TInfoOk Try.prog 125 ti125 := ⟨Try.underlying125, ⟨(.nilFunc), by kernel_rfl, rfl, rfl⟩, rfl, rfl, rfl, fun c h => (by first | (cases h; done) | (obtain rfl := Option.some.inj h; exact ⟨rfl, rfl, rfl⟩)), fun h => (by first | (cases h; done) | exact ⟨by kernel_rfl, by kernel_rfl, by kernel_rfl⟩)⟩
/-- uint64 -/
def ti126 : TInfo := ⟨(TypeDesc.int IntKind.u64), false, 1, 8, [.int .u64 0], (some (.int .u64)), false, false⟩
theorem ti126_ok : TInfoOk Try.prog 126 ti126 := ⟨Try.underlying126, ⟨(.int .u64 0), by kernel_rfl, rfl, rfl⟩, rfl, rfl, rfl, fun c h => (by first | (cases h; done) | (obtain rfl := Option.some.inj h; exact ⟨rfl, rfl, rfl⟩)), fun h => (by first | (cases h; done) | exact ⟨by kernel_rfl, by kernel_rfl, by kernel_rfl⟩)⟩
/-- struct { code []uint8; at int; hash uint64 } -/
def ti127 : TInfo := ⟨(TypeDesc.struct #[{ name := "code", type := 64, offset := 0, embedded := false, tag := "", pkgPath := "loop.example/g01234/spec", byteOffset := 0 }, { name := "at", type := 3, offset := 1, embedded := false, tag := "", pkgPath := "loop.example/g01234/spec", byteOffset := 24 }, { name := "hash", type := 126, offset := 2, embedded := false, tag := "", pkgPath := "loop.example/g01234/spec", byteOffset := 32 }]), true, 3, 40, [.raw (.slice none 0 0), .int .i64 0, .int .u64 0], none, false, false⟩
theorem ti127_ok : TInfoOk Try.prog 127 ti127 := ⟨Try.underlying127, ⟨(.agg #[(.slice none 0 0), .int .i64 0, .int .u64 0]), by kernel_rfl, rfl, rfl⟩, rfl, rfl, rfl, fun c h => (by first | (cases h; done) | (obtain rfl := Option.some.inj h; exact ⟨rfl, rfl, rfl⟩)), fun h => (by first | (cases h; done) | exact ⟨by kernel_rfl, by kernel_rfl, by kernel_rfl⟩)⟩
/-- spec.l01Source = loop.example/g01234/spec.l01Source -/
def ti128 : TInfo := ⟨(TypeDesc.struct #[{ name := "code", type := 64, offset := 0, embedded := false, tag := "", pkgPath := "loop.example/g01234/spec", byteOffset := 0 }, { name := "at", type := 3, offset := 1, embedded := false, tag := "", pkgPath := "loop.example/g01234/spec", byteOffset := 24 }, { name := "hash", type := 126, offset := 2, embedded := false, tag := "", pkgPath := "loop.example/g01234/spec", byteOffset := 32 }]), true, 3, 40, [.raw (.slice none 0 0), .int .i64 0, .int .u64 0], none, false, false⟩
theorem ti128_ok : TInfoOk Try.prog 128 ti128 := ⟨Try.underlying128, ⟨(.agg #[(.slice none 0 0), .int .i64 0, .int .u64 0]), by kernel_rfl, rfl, rfl⟩, rfl, rfl, rfl, fun c h => (by first | (cases h; done) | (obtain rfl := Option.some.inj h; exact ⟨rfl, rfl, rfl⟩)), fun h => (by first | (cases h; done) | exact ⟨by kernel_rfl, by kernel_rfl, by kernel_rfl⟩)⟩
/-- func(*spec.l01Source, impl.Angle) impl.Angle -/
def ti129 : TInfo := ⟨(TypeDesc.func #[100, 36] #[36] false), false, 1, 8, [.raw .nilFunc], none, false, false⟩
theorem ti129_ok : TInfoOk Try.prog 129 ti129 := ⟨Try.underlying129, ⟨(.nilFunc), by kernel_rfl, rfl, rfl⟩, rfl, rfl, rfl, fun c h => (by first | (cases h; done) | (obtain rfl := Option.some.inj h; exact ⟨rfl, rfl, rfl⟩)), fun h => (by first | (cases h; done) | exact ⟨by kernel_rfl, by kernel_rfl, by kernel_rfl⟩)⟩
/-- uint -/
def ti130 : TInfo := ⟨(TypeDesc.int IntKind.u64), false, 1, 8, [.int .u64 0], (some (.int .u64)), false, false⟩
theorem ti130_ok : TInfoOk Try.prog 130 ti130 := ⟨Try.underlying130, ⟨(.int .u64 0), by kernel_rfl, rfl, rfl⟩, rfl, rfl, rfl, fun c h => (by first | (cases h; done) | (obtain rfl := Option.some.inj h; exact ⟨rfl, rfl, rfl⟩)), fun h => (by first | (cases h; done) | exact ⟨by kernel_rfl, by kernel_rfl, by kernel_rfl⟩)⟩
/-- func([]impl.Angle, func(impl.Angle) bool) bool -/
def ti131 : TInfo := ⟨(TypeDesc.func #[116, 78] #[4] false), false, 1, 8, [.raw .nilFunc], none, false, false⟩
theorem ti131_ok : TInfoOk Try.prog 131 ti131 := ⟨Try.underlying131, ⟨(.nilFunc), by kernel_rfl, rfl, rfl⟩, rfl, rfl, rfl, fun c h => (by first | (cases h; done) | (obtain rfl := Option.some.inj h; exact ⟨rfl, rfl, rfl⟩)), fun h => (by first | (cases h; done) | exact ⟨by kernel_rfl, by kernel_rfl, by kernel_rfl⟩)⟩
/-- func([]uint8, func(uint8) bool) bool -/
def ti132 : TInfo := ⟨(TypeDesc.func #[64, 133] #[4] false), false, 1, 8, [.raw .nilFunc], none, false, false⟩
theorem ti132_ok : TInfoOk Try.prog 132 ti132 := ⟨Try.underlying132, ⟨(.nilFunc), by kernel_rfl, rfl, rfl⟩, rfl, rfl, rfl, fun c h => (by first | (cases h; done) | (obtain rfl := Option.some.inj h; exact ⟨rfl, rfl, rfl⟩)), fun h => (by first | (cases h; done) | exact ⟨by kernel_rfl, by kernel_rfl, by kernel_rfl⟩)⟩
/-- func(uint8) bool -/
def ti133 : TInfo := ⟨(TypeDesc.func #[5] #[4] false), false, 1, 8, [.raw .nilFunc], none, false, false⟩
theorem ti133_ok : TInfoOk Try.prog 133 ti133 := ⟨Try.underlying133, ⟨(.nilFunc), by kernel_rfl, rfl, rfl⟩, rfl, rfl, rfl, fun c h => (by first | (cases h; done) | (obtain rfl := Option.some.inj h; exact ⟨rfl, rfl, rfl⟩)), fun h => (by first | (cases h; done) | exact ⟨by kernel_rfl, by kernel_rfl, by kernel_rfl⟩)⟩
/-- func(string) string -/
def ti134 : TInfo := ⟨(TypeDesc.func #[9] #[9] false), false, 1, 8, [.raw .nilFunc], none, false, false⟩
theorem ti134_ok : TInfoOk Try.prog 134 ti134 := ⟨Try.underlying134, ⟨(.nilFunc), by kernel_rfl, rfl, rfl⟩, rfl, rfl, rfl, fun c h => (by first | (cases h; done) | (obtain rfl := Option.some.inj h; exact ⟨rfl, rfl, rfl⟩)), fun h => (by first | (cases h; done) | exact ⟨by kernel_rfl, by kernel_rfl, by kernel_rfl⟩)⟩
/-- func(string, string) int -/
def ti135 : TInfo := ⟨(TypeDesc.func #[9, 9] #[3] false), false, 1, 8, [.raw .nilFunc], none, false, false⟩
theorem ti135_ok : TInfoOk Try.prog 135 ti135 := ⟨Try.underlying135, ⟨(.nilFunc), by kernel_rfl, rfl, rfl⟩, rfl, rfl, rfl, fun c h => (by first | (cases h; done) | (obtain rfl := Option.some.inj h; exact ⟨rfl, rfl, rfl⟩)), fun h => (by first | (cases h; done) | exact ⟨by kernel_rfl, by kernel_rfl, by kernel_rfl⟩)⟩
/-- func(impl.Angle, impl.Angle) (impl.Sequence, bool) -/
def ti136 : TInfo := ⟨(TypeDesc.func #[36, 36] #[27, 4] false), false, 1, 8, [.raw .nilFunc], none, false, false⟩
theorem ti136_ok : TInfoOk Try.prog 136 ti136 := ⟨Try.underlying136, ⟨(.nilFunc), by kernel_rfl, rfl, rfl⟩, rfl, rfl, rfl, fun c h => (by first | (cases h; done) | (obtain rfl := Option.some.inj h; exact ⟨rfl, rfl, rfl⟩)), fun h => (by first | (cases h; done) | exact ⟨by kernel_rfl, by kernel_rfl, by kernel_rfl⟩)⟩
/-- []func(int64) impl.Sequence -/
def ti137 : TInfo := ⟨(TypeDesc.slice 122), false, 1, 24, [.raw (.slice none 0 0)], none, false, false⟩
theorem ti137_ok : TInfoOk Try.prog 137 ti137 := ⟨Try.underlying137, ⟨((.slice none 0 0)), by kernel_rfl, rfl, rfl⟩, rfl, rfl, rfl, fun c h => (by first | (cases h; done) | (obtain rfl := Option.some.inj h; exact ⟨rfl, rfl, rfl⟩)), fun h => (by first | (cases h; done) | exact ⟨by kernel_rfl, by kernel_rfl, by kernel_rfl⟩)⟩
/-- map[impl.Sequence]int64 -/
def ti138 : TInfo := ⟨(TypeDesc.map 27 2), false, 1, 8, [.raw (.map none)], none, false, false⟩
theorem ti138_ok : TInfoOk Try.prog 138 ti138 := ⟨Try.underlying138, ⟨((.map none)), by kernel_rfl, rfl, rfl⟩, rfl, rfl, rfl, fun c h => (by first | (cases h; done) | (obtain rfl := Option.some.inj h; exact ⟨rfl, rfl, rfl⟩)), fun h => (by first | (cases h; done) | exact ⟨by kernel_rfl, by kernel_rfl, by kernel_rfl⟩)⟩
/-- func(impl.Angle, impl.Angle) impl.Sequence -/
def ti140 : TInfo := ⟨(TypeDesc.func #[36, 36] #[27] false), false, 1, 8, [.raw .nilFunc], none, false, false⟩
theorem ti140_ok : TInfoOk Try.prog 140 ti140 := ⟨Try.underlying140, ⟨(.nilFunc), by kernel_rfl, rfl, rfl⟩, rfl, rfl, rfl, fun c h => (by first | (cases h; done) | (obtain rfl := Option.some.inj h; exact ⟨rfl, rfl, rfl⟩)), fun h => (by first | (cases h; done) | exact ⟨by kernel_rfl, by kernel_rfl, by kernel_rfl⟩)⟩
/-- func([]impl.Sequence, func(impl.Sequence) bool) int -/
def ti141 : TInfo := ⟨(TypeDesc.func #[110, 74] #[3] false), false, 1, 8, [.raw .nilFunc], none, false, false⟩
theorem ti141_ok : TInfoOk Try.prog 141 ti141 := ⟨Try.underlying141, ⟨(.nilFunc), by kernel_rfl, rfl, rfl⟩, rfl, rfl, rfl, fun c h => (by first | (cases h; done) | (obtain rfl := Option.some.inj h; exact ⟨rfl, rfl, rfl⟩)), fun h => (by first | (cases h; done) | exact ⟨by kernel_rfl, by kernel_rfl, by kernel_rfl⟩)⟩
/-- func(string, int) string -/
def ti142 : TInfo := ⟨(TypeDesc.func #[9, 3] #[9] false), false, 1, 8, [.raw .nilFunc], none, false, false⟩
theorem ti142_ok : TInfoOk Try.prog 142 ti142 := ⟨Try.underlying142, ⟨(.nilFunc), by kernel_rfl, rfl, rfl⟩, rfl, rfl, rfl, fun c h => (by first | (cases h; done) | (obtain rfl := Option.some.inj h; exact ⟨rfl, rfl, rfl⟩)), fun h => (by first | (cases h; done) | exact ⟨by kernel_rfl, by kernel_rfl, by kernel_rfl⟩)⟩
/-- func(string, uint8) int -/
def ti143 : TInfo := ⟨(TypeDesc.func #[9, 5] #[3] false), false, 1, 8, [.raw .nilFunc], none, false, false⟩
theorem ti143_ok : TInfoOk Try.prog 143 ti143 := ⟨Try.underlying143, ⟨(.nilFunc), by kernel_rfl, rfl, rfl⟩, rfl, rfl, rfl, fun c h => (by first | (cases h; done) | (obtain rfl := Option.some.inj h; exact ⟨rfl, rfl, rfl⟩)), fun h => (by first | (cases h; done) | exact ⟨by kernel_rfl, by kernel_rfl, by kernel_rfl⟩)⟩
/-- func(int) int -/
def ti144 : TInfo := ⟨(TypeDesc.func #[3] #[3] false), false, 1, 8, [.raw .nilFunc], none, false, false⟩
theorem ti144_ok : TInfoOk Try.prog 144 ti144 := ⟨Try.underlying144, ⟨(.nilFunc), by kernel_rfl, rfl, rfl⟩, rfl, rfl, rfl, fun c h => (by first | (cases h; done) | (obtain rfl := Option.some.inj h; exact ⟨rfl, rfl, rfl⟩)), fun h => (by first | (cases h; done) | exact ⟨by kernel_rfl, by kernel_rfl, by kernel_rfl⟩)⟩
/-- func(impl.Angle) ([]impl.Angle, int64, bool) -/
def ti146 : TInfo := ⟨(TypeDesc.func #[36] #[116, 2, 4] false), false, 1, 8, [.raw .nilFunc], none, false, false⟩
theorem ti146_ok : TInfoOk Try.prog 146 ti146 := ⟨Try.underlying146, ⟨(.nilFunc), by kernel_rfl, rfl, rfl⟩, rfl, rfl, rfl, fun c h => (by first | (cases h; done) | (obtain rfl := Option.some.inj h; exact ⟨rfl, rfl, rfl⟩)), fun h => (by first | (cases h; done) | exact ⟨by kernel_rfl, by kernel_rfl, by kernel_rfl⟩)⟩
/-- func() ([]impl.Angle, int, bool) -/
def ti148 : TInfo := ⟨(TypeDesc.func #[] #[116, 3, 4] false), false, 1, 8, [.raw .nilFunc], none, false, false⟩
theorem ti148_ok : TInfoOk Try.prog 148 ti148 := ⟨Try.underlying148, ⟨(.nilFunc), by kernel_rfl, rfl, rfl⟩, rfl, rfl, rfl, fun c h => (by first | (cases h; done) | (obtain rfl := Option.some.inj h; exact ⟨rfl, rfl, rfl⟩)), fun h => (by first | (cases h; done) | exact ⟨by kernel_rfl, by kernel_rfl, by kernel_rfl⟩)⟩
/-- func([]impl.Angle, int, func(impl.Angle) uint8) impl.Sequence -/
def ti149 : TInfo := ⟨(TypeDesc.func #[116, 3, 150] #[27] false), false, 1, 8, [.raw .nilFunc], none, false, false⟩
theorem ti149_ok : TInfoOk Try.prog 149 ti149 := ⟨Try.underlying149, ⟨(.nilFunc), by kernel_rfl, rfl, rfl⟩, rfl, rfl, rfl, fun c h => (by first | (cases h; done) | (obtain rfl := Option.some.inj h; exact ⟨rfl, rfl, rfl⟩)), fun h => (by first | (cases h; done) | exact ⟨by kernel_rfl, by kernel_rfl, by kernel_rfl⟩)⟩
/-- func(impl.Angle) uint8 -/
def ti150 : TInfo := ⟨(TypeDesc.func #[36] #[5] false), false, 1, 8, [.raw .nilFunc], none, false, false⟩
theorem ti150_ok : TInfoOk Try.prog 150 ti150 := ⟨Try.underlying150, ⟨(.nilFunc), by kernel_rfl, rfl, rfl⟩, rfl, rfl, rfl, fun c h => (by first | (cases h; done) | (obtain rfl := Option.some.inj h; exact ⟨rfl, rfl, rfl⟩)), fun h => (by first | (cases h; done) | exact ⟨by kernel_rfl, by kernel_rfl, by kernel_rfl⟩)⟩
/-- func([]impl.Angle, func(impl.Angle) bool) int -/
def ti151 : TInfo := ⟨(TypeDesc.func #[116, 78] #[3] false), false, 1, 8, [.raw .nilFunc], none, false, false⟩
theorem ti151_ok : TInfoOk Try.prog 151 ti151 := ⟨Try.underlying151, ⟨(.nilFunc), by kernel_rfl, rfl, rfl⟩, rfl, rfl, rfl, fun c h => (by first | (cases h; done) | (obtain rfl := Option.some.inj h; exact ⟨rfl, rfl, rfl⟩)), fun h => (by first | (cases h; done) | exact ⟨by kernel_rfl, by kernel_rfl, by kernel_rfl⟩)⟩
/-- func([]uint8, func(uint8) bool) int -/
def ti152 : TInfo := ⟨(TypeDesc.func #[64, 133] #[3] false), false, 1, 8, [.raw .nilFunc], none, false, false⟩
theorem ti152_ok : TInfoOk Try.prog 152 ti152 := ⟨Try.underlying152, ⟨(.nilFunc), by kernel_rfl, rfl, rfl⟩, rfl, rfl, rfl, fun c h => (by first | (cases h; done) | (obtain rfl := Option.some.inj h; exact ⟨rfl, rfl, rfl⟩)), fun h => (by first | (cases h; done) | exact ⟨by kernel_rfl, by kernel_rfl, by kernel_rfl⟩)⟩
/-- func(uint, uint) (uint, uint) -/
def ti154 : TInfo := ⟨(TypeDesc.func #[130, 130] #[130, 130] false), false, 1, 8, [.raw .nilFunc], none, false, false⟩
theorem ti154_ok : TInfoOk Try.prog 154 ti154 := ⟨Try.underlying154, ⟨(.nilFunc), by kernel_rfl, rfl, rfl⟩, rfl, rfl, rfl, fun c h => (by first | (cases h; done) | (obtain rfl := Option.some.inj h; exact ⟨rfl, rfl, rfl⟩)), fun h => (by first | (cases h; done) | exact ⟨by kernel_rfl, by kernel_rfl, by kernel_rfl⟩)⟩
/-- *strings.Builder -/
def ti155 : TInfo := ⟨(TypeDesc.pointer 157), false, 1, 8, [.raw (.pointer none)], none, false, false⟩
theorem ti155_ok : TInfoOk Try.prog 155 ti155 := ⟨Try.underlying155, ⟨((.pointer none)), by kernel_rfl, rfl, rfl⟩, rfl, rfl, rfl, fun c h => (by first | (cases h; done) | (obtain rfl := Option.some.inj h; exact ⟨rfl, rfl, rfl⟩)), fun h => (by first | (cases h; done) | exact ⟨by kernel_rfl, by kernel_rfl, by kernel_rfl⟩)⟩
/-- struct { addr *strings.Builder; buf []uint8 } -/
def ti156 : TInfo := ⟨(TypeDesc.struct #[{ name := "addr", type := 155, offset := 0, embedded := false, tag := "", pkgPath := "strings", byteOffset := 0 }, { name := "buf", type := 64, offset := 1, embedded := false, tag := "", pkgPath := "strings", byteOffset := 8 }]), true, 2, 32, [.raw (.pointer none), .raw (.slice none 0 0)], none, false, false⟩
theorem ti156_ok : TInfoOk Try.prog 156 ti156 := ⟨Try.underlying156, ⟨(.agg #[(.pointer none), (.slice none 0 0)]), by kernel_rfl, rfl, rfl⟩, rfl, rfl, rfl, fun c h => (by first | (cases h; done) | (obtain rfl := Option.some.inj h; exact ⟨rfl, rfl, rfl⟩)), fun h => (by first | (cases h; done) | exact ⟨by kernel_rfl, by kernel_rfl, by kernel_rfl⟩)⟩
/-- strings.Builder -/
def ti157 : TInfo := ⟨(TypeDesc.struct #[{ name := "addr", type := 155, offset := 0, embedded := false, tag := "", pkgPath := "strings", byteOffset := 0 }, { name := "buf", type := 64, offset := 1, embedded := false, tag := "", pkgPath := "strings", byteOffset := 8 }]), true, 2, 32, [.raw (.pointer none), .raw (.slice none 0 0)], none, false, false⟩
theorem ti157_ok : TInfoOk Try.prog 157 ti157 := ⟨Try.underlying157, ⟨(.agg #[(.pointer none), (.slice none 0 0)]), by kernel_rfl, rfl, rfl⟩, rfl, rfl, rfl, fun c h => (by first | (cases h; done) | (obtain rfl := Option.some.inj h; exact ⟨rfl, rfl, rfl⟩)), fun h => (by first | (cases h; done) | exact ⟨by kernel_rfl, by kernel_rfl, by kernel_rfl⟩)⟩
/-- func(int) -/
def ti158 : TInfo := ⟨(TypeDesc.func #[3] #[] false), false, 1, 8, [.raw .nilFunc], none, false, false⟩
theorem ti158_ok : TInfoOk Try.prog 158 ti158 := ⟨Try.underlying158, ⟨(.nilFunc), by kernel_rfl, rfl, rfl⟩, rfl, rfl, rfl, fun c h => (by first | (cases h; done) | (obtain rfl := Option.some.inj h; exact ⟨rfl, rfl, rfl⟩)), fun h => (by first | (cases h; done) | exact ⟨by kernel_rfl, by kernel_rfl, by kernel_rfl⟩)⟩
/-- func(string) (int, error) -/
def ti162 : TInfo := ⟨(TypeDesc.func #[9] #[3, 160] false), false, 1, 8, [.raw .nilFunc], none, false, false⟩
theorem ti162_ok : TInfoOk Try.prog 162 ti162 := ⟨Try.underlying162, ⟨(.nilFunc), by kernel_rfl, rfl, rfl⟩, rfl, rfl, rfl, fun c h => (by first | (cases h; done) | (obtain rfl := Option.some.inj h; exact ⟨rfl, rfl, rfl⟩)), fun h => (by first | (cases h; done) | exact ⟨by kernel_rfl, by kernel_rfl, by kernel_rfl⟩)⟩
/-- func() int -/
def ti163 : TInfo := ⟨(TypeDesc.func #[] #[3] false), false, 1, 8, [.raw .nilFunc], none, false, false⟩
theorem ti163_ok : TInfoOk Try.prog 163 ti163 := ⟨Try.underlying163, ⟨(.nilFunc), by kernel_rfl, rfl, rfl⟩, rfl, rfl, rfl, fun c h => (by first | (cases h; done) | (obtain rfl := Option.some.inj h; exact ⟨rfl, rfl, rfl⟩)), fun h => (by first | (cases h; done) | exact ⟨by kernel_rfl, by kernel_rfl, by kernel_rfl⟩)⟩
/-- uint32 -/
def ti164 : TInfo := ⟨(TypeDesc.int IntKind.u32), false, 1, 4, [.int .u32 0], (some (.int .u32)), false, false⟩
theorem ti164_ok : TInfoOk Try.prog 164 ti164 := ⟨Try.underlying164, ⟨(.int .u32 0), by kernel_rfl, rfl, rfl⟩, rfl, rfl, rfl, fun c h => (by first | (cases h; done) | (obtain rfl := Option.some.inj h; exact ⟨rfl, rfl, rfl⟩)), fun h => (by first | (cases h; done) | exact ⟨by kernel_rfl, by kernel_rfl, by kernel_rfl⟩)⟩
/-- func(string) (uint32, uint32) -/
def ti166 : TInfo := ⟨(TypeDesc.func #[9] #[164, 164] false), false, 1, 8, [.raw .nilFunc], none, false, false⟩
theorem ti166_ok : TInfoOk Try.prog 166 ti166 := ⟨Try.underlying166, ⟨(.nilFunc), by kernel_rfl, rfl, rfl⟩, rfl, rfl, rfl, fun c h => (by first | (cases h; done) | (obtain rfl := Option.some.inj h; exact ⟨rfl, rfl, rfl⟩)), fun h => (by first | (cases h; done) | exact ⟨by kernel_rfl, by kernel_rfl, by kernel_rfl⟩)⟩
/-- func([]impl.Angle, impl.Angle) int -/
def ti167 : TInfo := ⟨(TypeDesc.func #[116, 36] #[3] false), false, 1, 8, [.raw .nilFunc], none, false, false⟩
theorem ti167_ok : TInfoOk Try.prog 167 ti167 := ⟨Try.underlying167, ⟨(.nilFunc), by kernel_rfl, rfl, rfl⟩, rfl, rfl, rfl, fun c h => (by first | (cases h; done) | (obtain rfl := Option.some.inj h; exact ⟨rfl, rfl, rfl⟩)), fun h => (by first | (cases h; done) | exact ⟨by kernel_rfl, by kernel_rfl, by kernel_rfl⟩)⟩
/-- func() impl.Angle -/
def ti168 : TInfo := ⟨(TypeDesc.func #[] #[36] false), false, 1, 8, [.raw .nilFunc], none, false, false⟩
theorem ti168_ok : TInfoOk Try.prog 168 ti168 := ⟨Try.underlying168, ⟨(.nilFunc), by kernel_rfl, rfl, rfl⟩, rfl, rfl, rfl, fun c h => (by first | (cases h; done) | (obtain rfl := Option.some.inj h; exact ⟨rfl, rfl, rfl⟩)), fun h => (by first | (cases h; done) | exact ⟨by kernel_rfl, by kernel_rfl, by kernel_rfl⟩)⟩
/-- func(uint32, uint32) (uint32, uint32) -/
def ti169 : TInfo := ⟨(TypeDesc.func #[164, 164] #[164, 164] false), false, 1, 8, [.raw .nilFunc], none, false, false⟩
theorem ti169_ok : TInfoOk Try.prog 169 ti169 := ⟨Try.underlying169, ⟨(.nilFunc), by kernel_rfl, rfl, rfl⟩, rfl, rfl, rfl, fun c h => (by first | (cases h; done) | (obtain rfl := Option.some.inj h; exact ⟨rfl, rfl, rfl⟩)), fun h => (by first | (cases h; done) | exact ⟨by kernel_rfl, by kernel_rfl, by kernel_rfl⟩)⟩
/-- func(uint64, uint64) (uint64, uint64) -/
def ti171 : TInfo := ⟨(TypeDesc.func #[126, 126] #[126, 126] false), false, 1, 8, [.raw .nilFunc], none, false, false⟩
theorem ti171_ok : TInfoOk Try.prog 171 ti171 := ⟨Try.underlying171, ⟨(.nilFunc), by kernel_rfl, rfl, rfl⟩, rfl, rfl, rfl, fun c h => (by first | (cases h; done) | (obtain rfl := Option.some.inj h; exact ⟨rfl, rfl, rfl⟩)), fun h => (by first | (cases h; done) | exact ⟨by kernel_rfl, by kernel_rfl, by kernel_rfl⟩)⟩
/-- *uint8 -/
def ti172 : TInfo := ⟨(TypeDesc.pointer 5), false, 1, 8, [.raw (.pointer none)], none, false, false⟩
theorem ti172_ok : TInfoOk Try.prog 172 ti172 := ⟨Try.underlying172, ⟨((.pointer none)), by kernel_rfl, rfl, rfl⟩, rfl, rfl, rfl, fun c h => (by first | (cases h; done) | (obtain rfl := Option.some.inj h; exact ⟨rfl, rfl, rfl⟩)), fun h => (by first | (cases h; done) | exact ⟨by kernel_rfl, by kernel_rfl, by kernel_rfl⟩)⟩
/-- func(int) []uint8 -/
def ti175 : TInfo := ⟨(TypeDesc.func #[3] #[64] false), false, 1, 8, [.raw .nilFunc], none, false, false⟩
theorem ti175_ok : TInfoOk Try.prog 175 ti175 := ⟨Try.underlying175, ⟨(.nilFunc), by kernel_rfl, rfl, rfl⟩, rfl, rfl, rfl, fun c h => (by first | (cases h; done) | (obtain rfl := Option.some.inj h; exact ⟨rfl, rfl, rfl⟩)), fun h => (by first | (cases h; done) | exact ⟨by kernel_rfl, by kernel_rfl, by kernel_rfl⟩)⟩
/-- func() bool -/
def ti188 : TInfo := ⟨(TypeDesc.func #[] #[4] false), false, 1, 8, [.raw .nilFunc], none, false, false⟩
theorem ti188_ok : TInfoOk Try.prog 188 ti188 := ⟨Try.underlying188, ⟨(.nilFunc), by kernel_rfl, rfl, rfl⟩, rfl, rfl, rfl, fun c h => (by first | (cases h; done) | (obtain rfl := Option.some.inj h; exact ⟨rfl, rfl, rfl⟩)), fun h => (by first | (cases h; done) | exact ⟨by kernel_rfl, by kernel_rfl, by kernel_rfl⟩)⟩
/-- func() impl.reply -/
def ti189 : TInfo := ⟨(TypeDesc.func #[] #[191] false), false, 1, 8, [.raw .nilFunc], none, false, false⟩
theorem ti189_ok : TInfoOk Try.prog 189 ti189 := ⟨Try.underlying189, ⟨(.nilFunc), by kernel_rfl, rfl, rfl⟩, rfl, rfl, rfl, fun c h => (by first | (cases h; done) | (obtain rfl := Option.some.inj h; exact ⟨rfl, rfl, rfl⟩)), fun h => (by first | (cases h; done) | exact ⟨by kernel_rfl, by kernel_rfl, by kernel_rfl⟩)⟩
/-- struct { desk impl.Desk; text string; code int64 } -/
def ti190 : TInfo := ⟨(TypeDesc.struct #[{ name := "desk", type := 38, offset := 0, embedded := false, tag := "", pkgPath := "loop.example/g01234/impl", byteOffset := 0 }, { name := "text", type := 9, offset := 6, embedded := false, tag := "", pkgPath := "loop.example/g01234/impl", byteOffset := 64 }, { name := "code", type := 2, offset := 7, embedded := false, tag := "", pkgPath := "loop.example/g01234/impl", byteOffset := 80 }]), true, 8, 88, [.int .i64 0, .int .i64 0, .int .i64 0, .int .i64 0, .str ByteArray.empty, .str ByteArray.empty, .str ByteArray.empty, .int .i64 0], (some (.pair (.pair (.pair (.int .i64) (.int .i64)) (.pair (.pair (.int .i64) (.int .i64)) (.pair .str .str))) (.pair .str (.int .i64)))), true, false⟩
theorem ti190_ok : TInfoOk Try.prog 190 ti190 := ⟨Try.underlying190, ⟨(.agg #[.int .i64 0, .int .i64 0, .int .i64 0, .int .i64 0, .string ByteArray.empty, .string ByteArray.empty, .string ByteArray.empty, .int .i64 0]), by kernel_rfl, rfl, rfl⟩, rfl, rfl, rfl, fun c h => (by first | (cases h; done) | (obtain rfl := Option.some.inj h; exact ⟨rfl, rfl, rfl⟩)), fun h => (by first | (cases h; done) | exact ⟨by kernel_rfl, by kernel_rfl, by kernel_rfl⟩)⟩
/-- impl.reply = loop.example/g01234/impl.reply -/
def ti191 : TInfo := ⟨(TypeDesc.struct #[{ name := "desk", type := 38, offset := 0, embedded := false, tag := "", pkgPath := "loop.example/g01234/impl", byteOffset := 0 }, { name := "text", type := 9, offset := 6, embedded := false, tag := "", pkgPath := "loop.example/g01234/impl", byteOffset := 64 }, { name := "code", type := 2, offset := 7, embedded := false, tag := "", pkgPath := "loop.example/g01234/impl", byteOffset := 80 }]), true, 8, 88, [.int .i64 0, .int .i64 0, .int .i64 0, .int .i64 0, .str ByteArray.empty, .str ByteArray.empty, .str ByteArray.empty, .int .i64 0], (some (.pair (.pair (.pair (.int .i64) (.int .i64)) (.pair (.pair (.int .i64) (.int .i64)) (.pair .str .str))) (.pair .str (.int .i64)))), true, false⟩
theorem ti191_ok : TInfoOk Try.prog 191 ti191 := ⟨Try.underlying191, ⟨(.agg #[.int .i64 0, .int .i64 0, .int .i64 0, .int .i64 0, .string ByteArray.empty, .string ByteArray.empty, .string ByteArray.empty, .int .i64 0]), by kernel_rfl, rfl, rfl⟩, rfl, rfl, rfl, fun c h => (by first | (cases h; done) | (obtain rfl := Option.some.inj h; exact ⟨rfl, rfl, rfl⟩)), fun h => (by first | (cases h; done) | exact ⟨by kernel_rfl, by kernel_rfl, by kernel_rfl⟩)⟩
def TL : List (TypeId × TInfo) := [(1, ti1), (2, ti2), (3, ti3), (4, ti4), (5, ti5), (9, ti9), (21, ti21), (22, ti22), (23, ti23), (24, ti24), (26, ti26), (27, ti27), (28, ti28), (29, ti29), (30, ti30), (31, ti31), (32, ti32), (33, ti33), (34, ti34), (35, ti35), (36, ti36), (37, ti37), (38, ti38), (39, ti39), (40, ti40), (42, ti42), (43, ti43), (44, ti44), (46, ti46), (47, ti47), (48, ti48), (50, ti50), (51, ti51), (52, ti52), (54, ti54), (55, ti55), (56, ti56), (57, ti57), (58, ti58), (60, ti60), (61, ti61), (62, ti62), (63, ti63), (64, ti64), (65, ti65), (67, ti67), (69, ti69), (71, ti71), (72, ti72), (73, ti73), (74, ti74), (75, ti75), (76, ti76), (77, ti77), (78, ti78), (80, ti80), (82, ti82), (83, ti83), (84, ti84), (85, ti85), (87, ti87), (88, ti88), (89, ti89), (90, ti90), (91, ti91), (92, ti92), (93, ti93), (94, ti94), (95, ti95), (96, ti96), (97, ti97), (98, ti98), (99, ti99), (100, ti100), (101, ti101), (102, ti102), (103, ti103), (104, ti104), (105, ti105), (106, ti106), (107, ti107), (108, ti108), (109, ti109), (110, ti110), (111, ti111), (112, ti112), (113, ti113), (114, ti114), (115, ti115), (116, ti116), (118, ti118), (119, ti119), (120, ti120), (121, ti121), (122, ti122), (123, ti123), (124, ti124), (125, ti125), (126, ti126), (127, ti127), (128, ti128), (129, ti129), (130, ti130), (131, ti131), (132, ti132), (133, ti133), (134, ti134), (135, ti135), (136, ti136), (137, ti137), (138, ti138), (140, ti140), (141, ti141), (142, ti142), (143, ti143), (144, ti144), (146, ti146), (148, ti148), (149, ti149), (150, ti150), (151, ti151), (152, ti152), (154, ti154), (155, ti155), (156, ti156), (157, ti157), (158, ti158), (162, ti162), (163, ti163), (164, ti164), (166, ti166), (167, ti167), (168, ti168), (169, ti169), (171, ti171), (172, ti172), (175, ti175), (188, ti188), (189, ti189), (190, ti190), (191, ti191)]
def ti64w : TInfo := { ti2 with wf := true }
theorem ti64w_ok : TInfoOk Try.prog 2 ti64w := ⟨ti2_ok.und, ti2_ok.info, ti2_ok.agg, ti2_ok.flat, ti2_ok.zlen, ti2_ok.ty, ti2_ok.eqOk⟩
def TLW : List (TypeId × TInfo) := [(1, ti1), (2, ti64w), (3, ti3), (4, ti4), (5, ti5), (9, ti9), (21, ti21), (22, ti22), (23, ti23), (24, ti24), (26, ti26), (27, ti27), (28, ti28), (29, ti29), (30, ti30), (31, ti31), (32, ti32), (33, ti33), (34, ti34), (35, ti35), (36, ti36), (37, ti37), (38, ti38), (39, ti39), (40, ti40), (42, ti42), (43, ti43), (44, ti44), (46, ti46), (47, ti47), (48, ti48), (50, ti50), (51, ti51), (52, ti52), (54, ti54), (55, ti55), (56, ti56), (57, ti57), (58, ti58), (60, ti60), (61, ti61), (62, ti62), (63, ti63), (64, ti64), (65, ti65), (67, ti67), (69, ti69), (71, ti71), (72, ti72), (73, ti73), (74, ti74), (75, ti75), (76, ti76), (77, ti77), (78, ti78), (80, ti80), (82, ti82), (83, ti83), (84, ti84), (85, ti85), (87, ti87), (88, ti88), (89, ti89), (90, ti90), (91, ti91), (92, ti92), (93, ti93), (94, ti94), (95, ti95), (96, ti96), (97, ti97), (98, ti98), (99, ti99), (100, ti100), (101, ti101), (102, ti102), (103, ti103), (104, ti104), (105, ti105), (106, ti106), (107, ti107), (108, ti108), (109, ti109), (110, ti110), (111, ti111), (112, ti112), (113, ti113), (114, ti114), (115, ti115), (116, ti116), (118, ti118), (119, ti119), (120, ti120), (121, ti121), (122, ti122), (123, ti123), (124, ti124), (125, ti125), (126, ti126), (127, ti127), (128, ti128), (129, ti129), (130, ti130), (131, ti131), (132, ti132), (133, ti133), (134, ti134), (135, ti135), (136, ti136), (137, ti137), (138, ti138), (140, ti140), (141, ti141), (142, ti142), (143, ti143), (144, ti144), (146, ti146), (148, ti148), (149, ti149), (150, ti150), (151, ti151), (152, ti152), (154, ti154), (155, ti155), (156, ti156), (157, ti157), (158, ti158), (162, ti162), (163, ti163), (164, ti164), (166, ti166), (167, ti167), (168, ti168), (169, ti169), (171, ti171), (172, ti172), (175, ti175), (188, ti188), (189, ti189), (190, ti190), (191, ti191)]
def TW : TypeId → Option TInfo := lookT TLW
theorem T_okW : TOk Try.prog TW := TOk.list (by
  intro p hp
  simp only [TLW, List.mem_cons, List.not_mem_nil, or_false] at hp
  rcases hp with rfl | rfl | rfl | rfl | rfl | rfl | rfl | rfl | rfl | rfl | rfl | rfl | rfl | rfl | rfl | rfl | rfl | rfl | rfl | rfl | rfl | rfl | rfl | rfl | rfl | rfl | rfl | rfl | rfl | rfl | rfl | rfl | rfl | rfl | rfl | rfl | rfl | rfl | rfl | rfl | rfl | rfl | rfl | rfl | rfl | rfl | rfl | rfl | rfl | rfl | rfl | rfl | rfl | rfl | rfl | rfl | rfl | rfl | rfl | rfl | rfl | rfl | rfl | rfl | rfl | rfl | rfl | rfl | rfl | rfl | rfl | rfl | rfl | rfl | rfl | rfl | rfl | rfl | rfl | rfl | rfl | rfl | rfl | rfl | rfl | rfl | rfl | rfl | rfl | rfl | rfl | rfl | rfl | rfl | rfl | rfl | rfl | rfl | rfl | rfl | rfl | rfl | rfl | rfl | rfl | rfl | rfl | rfl | rfl | rfl | rfl | rfl | rfl | rfl | rfl | rfl | rfl | rfl | rfl | rfl | rfl | rfl | rfl | rfl | rfl | rfl | rfl | rfl | rfl | rfl | rfl | rfl | rfl | rfl | rfl | rfl | rfl | rfl | rfl | rfl | rfl
  · exact ti1_ok
  · exact ti64w_ok
  · exact ti3_ok
  · exact ti4_ok
  · exact ti5_ok
  · exact ti9_ok
  · exact ti21_ok
  · exact ti22_ok
  · exact ti23_ok
  · exact ti24_ok
  · exact ti26_ok
  · exact ti27_ok
  · exact ti28_ok
  · exact ti29_ok
  · exact ti30_ok
  · exact ti31_ok
  · exact ti32_ok
  · exact ti33_ok
  · exact ti34_ok
  · exact ti35_ok
  · exact ti36_ok
  · exact ti37_ok
  · exact ti38_ok
  · exact ti39_ok
  · exact ti40_ok
  · exact ti42_ok
  · exact ti43_ok
  · exact ti44_ok
  · exact ti46_ok
  · exact ti47_ok
  · exact ti48_ok
  · exact ti50_ok
  · exact ti51_ok
  · exact ti52_ok
  · exact ti54_ok
  · exact ti55_ok
  · exact ti56_ok
  · exact ti57_ok
  · exact ti58_ok
  · exact ti60_ok
  · exact ti61_ok
  · exact ti62_ok
  · exact ti63_ok
  · exact ti64_ok
  · exact ti65_ok
  · exact ti67_ok
  · exact ti69_ok
  · exact ti71_ok
  · exact ti72_ok
  · exact ti73_ok
  · exact ti74_ok
  · exact ti75_ok
  · exact ti76_ok
  · exact ti77_ok
  · exact ti78_ok
  · exact ti80_ok
  · exact ti82_ok
  · exact ti83_ok
  · exact ti84_ok
  · exact ti85_ok
  · exact ti87_ok
  · exact ti88_ok
  · exact ti89_ok
  · exact ti90_ok
  · exact ti91_ok
  · exact ti92_ok
  · exact ti93_ok
  · exact ti94_ok
  · exact ti95_ok
  · exact ti96_ok
  · exact ti97_ok
  · exact ti98_ok
  · exact ti99_ok
  · exact ti100_ok
  · exact ti101_ok
  · exact ti102_ok
  · exact ti103_ok
  · exact ti104_ok
  · exact ti105_ok
  · exact ti106_ok
  · exact ti107_ok
  · exact ti108_ok
  · exact ti109_ok
  · exact ti110_ok
  · exact ti111_ok
  · exact ti112_ok
  · exact ti113_ok
  · exact ti114_ok
  · exact ti115_ok
  · exact ti116_ok
  · exact ti118_ok
  · exact ti119_ok
  · exact ti120_ok
  · exact ti121_ok
  · exact ti122_ok
  · exact ti123_ok
  · exact ti124_ok
  · exact ti125_ok
  · exact ti126_ok
  · exact ti127_ok
  · exact ti128_ok
  · exact ti129_ok
  · exact ti130_ok
  · exact ti131_ok
  · exact ti132_ok
  · exact ti133_ok
  · exact ti134_ok
  · exact ti135_ok
  · exact ti136_ok
  · exact ti137_ok
  · exact ti138_ok
  · exact ti140_ok
  · exact ti141_ok
  · exact ti142_ok
  · exact ti143_ok
  · exact ti144_ok
  · exact ti146_ok
  · exact ti148_ok
  · exact ti149_ok
  · exact ti150_ok
  · exact ti151_ok
  · exact ti152_ok
  · exact ti154_ok
  · exact ti155_ok
  · exact ti156_ok
  · exact ti157_ok
  · exact ti158_ok
  · exact ti162_ok
  · exact ti163_ok
  · exact ti164_ok
  · exact ti166_ok
  · exact ti167_ok
  · exact ti168_ok
  · exact ti169_ok
  · exact ti171_ok
  · exact ti172_ok
  · exact ti175_ok
  · exact ti188_ok
  · exact ti189_ok
  · exact ti190_ok
  · exact ti191_ok)
def T : TypeId → Option TInfo := lookT TL
theorem T_ok : TOk Try.prog T := TOk.list (by
  intro p hp
  simp only [TL, List.mem_cons, List.not_mem_nil, or_false] at hp
  rcases hp with rfl | rfl | rfl | rfl | rfl | rfl | rfl | rfl | rfl | rfl | rfl | rfl | rfl | rfl | rfl | rfl | rfl | rfl | rfl | rfl | rfl | rfl | rfl | rfl | rfl | rfl | rfl | rfl | rfl | rfl | rfl | rfl | rfl | rfl | rfl | rfl | rfl | rfl | rfl | rfl | rfl | rfl | rfl | rfl | rfl | rfl | rfl | rfl | rfl | rfl | rfl | rfl | rfl | rfl | rfl | rfl | rfl | rfl | rfl | rfl | rfl | rfl | rfl | rfl | rfl | rfl | rfl | rfl | rfl | rfl | rfl | rfl | rfl | rfl | rfl | rfl | rfl | rfl | rfl | rfl | rfl | rfl | rfl | rfl | rfl | rfl | rfl | rfl | rfl | rfl | rfl | rfl | rfl | rfl | rfl | rfl | rfl | rfl | rfl | rfl | rfl | rfl | rfl | rfl | rfl | rfl | rfl | rfl | rfl | rfl | rfl | rfl | rfl | rfl | rfl | rfl | rfl | rfl | rfl | rfl | rfl | rfl | rfl | rfl | rfl | rfl | rfl | rfl | rfl | rfl | rfl | rfl | rfl | rfl | rfl | rfl | rfl | rfl | rfl | rfl | rfl
  · exact ti1_ok
  · exact ti2_ok
  · exact ti3_ok
  · exact ti4_ok
  · exact ti5_ok
  · exact ti9_ok
  · exact ti21_ok
  · exact ti22_ok
  · exact ti23_ok
  · exact ti24_ok
  · exact ti26_ok
  · exact ti27_ok
  · exact ti28_ok
  · exact ti29_ok
  · exact ti30_ok
  · exact ti31_ok
  · exact ti32_ok
  · exact ti33_ok
  · exact ti34_ok
  · exact ti35_ok
  · exact ti36_ok
  · exact ti37_ok
  · exact ti38_ok
  · exact ti39_ok
  · exact ti40_ok
  · exact ti42_ok
  · exact ti43_ok
  · exact ti44_ok
  · exact ti46_ok
  · exact ti47_ok
  · exact ti48_ok
  · exact ti50_ok
  · exact ti51_ok
  · exact ti52_ok
  · exact ti54_ok
  · exact ti55_ok
  · exact ti56_ok
  · exact ti57_ok
  · exact ti58_ok
  · exact ti60_ok
  · exact ti61_ok
  · exact ti62_ok
  · exact ti63_ok
  · exact ti64_ok
  · exact ti65_ok
  · exact ti67_ok
  · exact ti69_ok
  · exact ti71_ok
  · exact ti72_ok
  · exact ti73_ok
  · exact ti74_ok
  · exact ti75_ok
  · exact ti76_ok
  · exact ti77_ok
  · exact ti78_ok
  · exact ti80_ok
  · exact ti82_ok
  · exact ti83_ok
  · exact ti84_ok
  · exact ti85_ok
  · exact ti87_ok
  · exact ti88_ok
  · exact ti89_ok
  · exact ti90_ok
  · exact ti91_ok
  · exact ti92_ok
  · exact ti93_ok
  · exact ti94_ok
  · exact ti95_ok
  · exact ti96_ok
  · exact ti97_ok
  · exact ti98_ok
  · exact ti99_ok
  · exact ti100_ok
  · exact ti101_ok
  · exact ti102_ok
  · exact ti103_ok
  · exact ti104_ok
  · exact ti105_ok
  · exact ti106_ok
  · exact ti107_ok
  · exact ti108_ok
  · exact ti109_ok
  · exact ti110_ok
  · exact ti111_ok
  · exact ti112_ok
  · exact ti113_ok
  · exact ti114_ok
  · exact ti115_ok
  · exact ti116_ok
  · exact ti118_ok
  · exact ti119_ok
  · exact ti120_ok
  · exact ti121_ok
  · exact ti122_ok
  · exact ti123_ok
  · exact ti124_ok
  · exact ti125_ok
  · exact ti126_ok
  · exact ti127_ok
  · exact ti128_ok
  · exact ti129_ok
  · exact ti130_ok
  · exact ti131_ok
  · exact ti132_ok
  · exact ti133_ok
  · exact ti134_ok
  · exact ti135_ok
  · exact ti136_ok
  · exact ti137_ok
  · exact ti138_ok
  · exact ti140_ok
  · exact ti141_ok
  · exact ti142_ok
  · exact ti143_ok
  · exact ti144_ok
  · exact ti146_ok
  · exact ti148_ok
  · exact ti149_ok
  · exact ti150_ok
  · exact ti151_ok
  · exact ti152_ok
  · exact ti154_ok
  · exact ti155_ok
  · exact ti156_ok
  · exact ti157_ok
  · exact ti158_ok
  · exact ti162_ok
  · exact ti163_ok
  · exact ti164_ok
  · exact ti166_ok
  · exact ti167_ok
  · exact ti168_ok
  · exact ti169_ok
  · exact ti171_ok
  · exact ti172_ok
  · exact ti175_ok
  · exact ti188_ok
  · exact ti189_ok
  · exact ti190_ok
  · exact ti191_ok)
end Go.Proofs.Ytlplngafncobkad.Fw
