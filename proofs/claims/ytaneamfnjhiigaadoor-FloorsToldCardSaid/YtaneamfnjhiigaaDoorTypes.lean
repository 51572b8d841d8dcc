/- The engine's table of this seat's types, each held against the program. -/
import Derived.Test.YtaneamfnjhiigaaDoorECode
import Derived.Test.YtaneamfnjhiigaaDoorProg
namespace Go.Proofs.YtaneamfnjhiigaaDoor.E
open Go
set_option maxRecDepth 100000
/-- func() -/
def te1 : TE := ⟨1, .func, 1, 8, [.nilFunc]⟩
theorem te1_ok : te1.ok Tryd.prog := ⟨⟨_, _, _, Tryd.underlying1⟩, _, _, rfl, rfl, rfl, rfl, rfl⟩
/-- int64 -/
def te2 : TE := ⟨2, (.int .i64), 1, 8, [.int .i64 0]⟩
theorem te2_ok : te2.ok Tryd.prog := ⟨Tryd.underlying2, _, _, rfl, rfl, rfl, rfl, rfl⟩
/-- int -/
def te3 : TE := ⟨3, (.int .i64), 1, 8, [.int .i64 0]⟩
theorem te3_ok : te3.ok Tryd.prog := ⟨Tryd.underlying3, _, _, rfl, rfl, rfl, rfl, rfl⟩
/-- bool -/
def te4 : TE := ⟨4, .bool, 1, 1, [.bool false]⟩
theorem te4_ok : te4.ok Tryd.prog := ⟨Tryd.underlying4, _, _, rfl, rfl, rfl, rfl, rfl⟩
/-- uint8 -/
def te5 : TE := ⟨5, (.int .u8), 1, 1, [.int .u8 0]⟩
theorem te5_ok : te5.ok Tryd.prog := ⟨Tryd.underlying5, _, _, rfl, rfl, rfl, rfl, rfl⟩
/-- string -/
def te9 : TE := ⟨9, .string, 1, 16, [.string ⟨#[]⟩]⟩
theorem te9_ok : te9.ok Tryd.prog := ⟨Tryd.underlying9, _, _, rfl, rfl, rfl, rfl, rfl⟩
/-- uintptr -/
def te12 : TE := ⟨12, (.int .u64), 1, 8, [.int .u64 0]⟩
theorem te12_ok : te12.ok Tryd.prog := ⟨Tryd.underlying12, _, _, rfl, rfl, rfl, rfl, rfl⟩
/-- int32 -/
def te21 : TE := ⟨21, (.int .i32), 1, 4, [.int .i32 0]⟩
theorem te21_ok : te21.ok Tryd.prog := ⟨Tryd.underlying21, _, _, rfl, rfl, rfl, rfl, rfl⟩
/-- uint64 -/
def te22 : TE := ⟨22, (.int .u64), 1, 8, [.int .u64 0]⟩
theorem te22_ok : te22.ok Tryd.prog := ⟨Tryd.underlying22, _, _, rfl, rfl, rfl, rfl, rfl⟩
/-- func() bool -/
def te23 : TE := ⟨23, .func, 1, 8, [.nilFunc]⟩
theorem te23_ok : te23.ok Tryd.prog := ⟨⟨_, _, _, Tryd.underlying23⟩, _, _, rfl, rfl, rfl, rfl, rfl⟩
/-- []int -/
def te24 : TE := ⟨24, (.slice 3), 1, 24, [.slice none 0 0]⟩
theorem te24_ok : te24.ok Tryd.prog := ⟨Tryd.underlying24, _, _, rfl, rfl, rfl, rfl, rfl⟩
/-- func(func(int) bool) -/
def te25 : TE := ⟨25, .func, 1, 8, [.nilFunc]⟩
theorem te25_ok : te25.ok Tryd.prog := ⟨⟨_, _, _, Tryd.underlying25⟩, _, _, rfl, rfl, rfl, rfl, rfl⟩
/-- floors.Set -/
def te26 : TE := ⟨26, (.int .u64), 1, 8, [.int .u64 0]⟩
theorem te26_ok : te26.ok Tryd.prog := ⟨Tryd.underlying26, _, _, rfl, rfl, rfl, rfl, rfl⟩
/-- func(int) func(func(int) bool) -/
def te27 : TE := ⟨27, .func, 1, 8, [.nilFunc]⟩
theorem te27_ok : te27.ok Tryd.prog := ⟨⟨_, _, _, Tryd.underlying27⟩, _, _, rfl, rfl, rfl, rfl, rfl⟩
/-- func(uint64, int, bool) []int -/
def te28 : TE := ⟨28, .func, 1, 8, [.nilFunc]⟩
theorem te28_ok : te28.ok Tryd.prog := ⟨⟨_, _, _, Tryd.underlying28⟩, _, _, rfl, rfl, rfl, rfl, rfl⟩
/-- func(int) (int, bool) -/
def te30 : TE := ⟨30, .func, 1, 8, [.nilFunc]⟩
theorem te30_ok : te30.ok Tryd.prog := ⟨⟨_, _, _, Tryd.underlying30⟩, _, _, rfl, rfl, rfl, rfl, rfl⟩
/-- func(uint64, int) int -/
def te31 : TE := ⟨31, .func, 1, 8, [.nilFunc]⟩
theorem te31_ok : te31.ok Tryd.prog := ⟨⟨_, _, _, Tryd.underlying31⟩, _, _, rfl, rfl, rfl, rfl, rfl⟩
/-- func([]int, []int) bool -/
def te32 : TE := ⟨32, .func, 1, 8, [.nilFunc]⟩
theorem te32_ok : te32.ok Tryd.prog := ⟨⟨_, _, _, Tryd.underlying32⟩, _, _, rfl, rfl, rfl, rfl, rfl⟩
/-- func(uint64, int, int) bool -/
def te33 : TE := ⟨33, .func, 1, 8, [.nilFunc]⟩
theorem te33_ok : te33.ok Tryd.prog := ⟨⟨_, _, _, Tryd.underlying33⟩, _, _, rfl, rfl, rfl, rfl, rfl⟩
/-- [64]bool -/
def te34 : TE := ⟨34, (.array 64 4), 64, 64, [.bool false, .bool false, .bool false, .bool false, .bool false, .bool false, .bool false, .bool false, .bool false, .bool false, .bool false, .bool false, .bool false, .bool false, .bool false, .bool false, .bool false, .bool false, .bool false, .bool false, .bool false, .bool false, .bool false, .bool false, .bool false, .bool false, .bool false, .bool false, .bool false, .bool false, .bool false, .bool false, .bool false, .bool false, .bool false, .bool false, .bool false, .bool false, .bool false, .bool false, .bool false, .bool false, .bool false, .bool false, .bool false, .bool false, .bool false, .bool false, .bool false, .bool false, .bool false, .bool false, .bool false, .bool false, .bool false, .bool false, .bool false, .bool false, .bool false, .bool false, .bool false, .bool false, .bool false, .bool false]⟩
theorem te34_ok : te34.ok Tryd.prog := ⟨Tryd.underlying34, _, _, rfl, rfl, rfl, rfl, rfl⟩
/-- func(...int) floors.Set -/
def te35 : TE := ⟨35, .func, 1, 8, [.nilFunc]⟩
theorem te35_ok : te35.ok Tryd.prog := ⟨⟨_, _, _, Tryd.underlying35⟩, _, _, rfl, rfl, rfl, rfl, rfl⟩
/-- func([64]bool) uint64 -/
def te36 : TE := ⟨36, .func, 1, 8, [.nilFunc]⟩
theorem te36_ok : te36.ok Tryd.prog := ⟨⟨_, _, _, Tryd.underlying36⟩, _, _, rfl, rfl, rfl, rfl, rfl⟩
/-- func(int) floors.Set -/
def te37 : TE := ⟨37, .func, 1, 8, [.nilFunc]⟩
theorem te37_ok : te37.ok Tryd.prog := ⟨⟨_, _, _, Tryd.underlying37⟩, _, _, rfl, rfl, rfl, rfl, rfl⟩
/-- func() int -/
def te38 : TE := ⟨38, .func, 1, 8, [.nilFunc]⟩
theorem te38_ok : te38.ok Tryd.prog := ⟨⟨_, _, _, Tryd.underlying38⟩, _, _, rfl, rfl, rfl, rfl, rfl⟩
/-- func(int) bool -/
def te39 : TE := ⟨39, .func, 1, 8, [.nilFunc]⟩
theorem te39_ok : te39.ok Tryd.prog := ⟨⟨_, _, _, Tryd.underlying39⟩, _, _, rfl, rfl, rfl, rfl, rfl⟩
/-- func([]int, int, int) bool -/
def te40 : TE := ⟨40, .func, 1, 8, [.nilFunc]⟩
theorem te40_ok : te40.ok Tryd.prog := ⟨⟨_, _, _, Tryd.underlying40⟩, _, _, rfl, rfl, rfl, rfl, rfl⟩
/-- func(uint64, int) bool -/
def te41 : TE := ⟨41, .func, 1, 8, [.nilFunc]⟩
theorem te41_ok : te41.ok Tryd.prog := ⟨⟨_, _, _, Tryd.underlying41⟩, _, _, rfl, rfl, rfl, rfl, rfl⟩
/-- func(uint64) int -/
def te42 : TE := ⟨42, .func, 1, 8, [.nilFunc]⟩
theorem te42_ok : te42.ok Tryd.prog := ⟨⟨_, _, _, Tryd.underlying42⟩, _, _, rfl, rfl, rfl, rfl, rfl⟩
/-- func(uint64) [64]bool -/
def te43 : TE := ⟨43, .func, 1, 8, [.nilFunc]⟩
theorem te43_ok : te43.ok Tryd.prog := ⟨⟨_, _, _, Tryd.underlying43⟩, _, _, rfl, rfl, rfl, rfl, rfl⟩
/-- func(func(func(int) bool)) (int, bool) -/
def te44 : TE := ⟨44, .func, 1, 8, [.nilFunc]⟩
theorem te44_ok : te44.ok Tryd.prog := ⟨⟨_, _, _, Tryd.underlying44⟩, _, _, rfl, rfl, rfl, rfl, rfl⟩
/-- [64]uint8 -/
def te45 : TE := ⟨45, (.array 64 5), 64, 64, [.int .u8 0, .int .u8 0, .int .u8 0, .int .u8 0, .int .u8 0, .int .u8 0, .int .u8 0, .int .u8 0, .int .u8 0, .int .u8 0, .int .u8 0, .int .u8 0, .int .u8 0, .int .u8 0, .int .u8 0, .int .u8 0, .int .u8 0, .int .u8 0, .int .u8 0, .int .u8 0, .int .u8 0, .int .u8 0, .int .u8 0, .int .u8 0, .int .u8 0, .int .u8 0, .int .u8 0, .int .u8 0, .int .u8 0, .int .u8 0, .int .u8 0, .int .u8 0, .int .u8 0, .int .u8 0, .int .u8 0, .int .u8 0, .int .u8 0, .int .u8 0, .int .u8 0, .int .u8 0, .int .u8 0, .int .u8 0, .int .u8 0, .int .u8 0, .int .u8 0, .int .u8 0, .int .u8 0, .int .u8 0, .int .u8 0, .int .u8 0, .int .u8 0, .int .u8 0, .int .u8 0, .int .u8 0, .int .u8 0, .int .u8 0, .int .u8 0, .int .u8 0, .int .u8 0, .int .u8 0, .int .u8 0, .int .u8 0, .int .u8 0, .int .u8 0]⟩
theorem te45_ok : te45.ok Tryd.prog := ⟨Tryd.underlying45, _, _, rfl, rfl, rfl, rfl, rfl⟩
/-- uint -/
def te46 : TE := ⟨46, (.int .u64), 1, 8, [.int .u64 0]⟩
theorem te46_ok : te46.ok Tryd.prog := ⟨Tryd.underlying46, _, _, rfl, rfl, rfl, rfl, rfl⟩
/-- func() string -/
def te47 : TE := ⟨47, .func, 1, 8, [.nilFunc]⟩
theorem te47_ok : te47.ok Tryd.prog := ⟨⟨_, _, _, Tryd.underlying47⟩, _, _, rfl, rfl, rfl, rfl, rfl⟩
/-- uint32 -/
def te53 : TE := ⟨53, (.int .u32), 1, 4, [.int .u32 0]⟩
theorem te53_ok : te53.ok Tryd.prog := ⟨Tryd.underlying53, _, _, rfl, rfl, rfl, rfl, rfl⟩
/-- func(unsafe.Pointer, unsafe.Pointer) bool -/
def te56 : TE := ⟨56, .func, 1, 8, [.nilFunc]⟩
theorem te56_ok : te56.ok Tryd.prog := ⟨⟨_, _, _, Tryd.underlying56⟩, _, _, rfl, rfl, rfl, rfl, rfl⟩
/-- *uint8 -/
def te57 : TE := ⟨57, (.pointer 5), 1, 8, [.pointer none]⟩
theorem te57_ok : te57.ok Tryd.prog := ⟨Tryd.underlying57, _, _, rfl, rfl, rfl, rfl, rfl⟩
def tt : List TE := [te1, te2, te3, te4, te5, te9, te12, te21, te22, te23, te24, te25, te26, te27, te28, te30, te31, te32, te33, te34, te35, te36, te37, te38, te39, te40, te41, te42, te43, te44, te45, te46, te47, te53, te56, te57]
theorem tt_ok : TTok Tryd.prog tt := by
  intro e he
  simp only [tt, List.mem_cons, List.not_mem_nil, or_false] at he
  rcases he with rfl | rfl | rfl | rfl | rfl | rfl | rfl | rfl | rfl | rfl | rfl | rfl | rfl | rfl | rfl | rfl | rfl | rfl | rfl | rfl | rfl | rfl | rfl | rfl | rfl | rfl | rfl | rfl | rfl | rfl | rfl | rfl | rfl | rfl | rfl | rfl
  · exact te1_ok
  · exact te2_ok
  · exact te3_ok
  · exact te4_ok
  · exact te5_ok
  · exact te9_ok
  · exact te12_ok
  · exact te21_ok
  · exact te22_ok
  · exact te23_ok
  · exact te24_ok
  · exact te25_ok
  · exact te26_ok
  · exact te27_ok
  · exact te28_ok
  · exact te30_ok
  · exact te31_ok
  · exact te32_ok
  · exact te33_ok
  · exact te34_ok
  · exact te35_ok
  · exact te36_ok
  · exact te37_ok
  · exact te38_ok
  · exact te39_ok
  · exact te40_ok
  · exact te41_ok
  · exact te42_ok
  · exact te43_ok
  · exact te44_ok
  · exact te45_ok
  · exact te46_ok
  · exact te47_ok
  · exact te53_ok
  · exact te56_ok
  · exact te57_ok
theorem mixed : Tryd.prog.follows .mixedOrders = true := by kernel_rfl
end Go.Proofs.YtaneamfnjhiigaaDoor.E
