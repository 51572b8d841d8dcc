/- The engine's table of this seat's types, each held against the program. -/
import Derived.Test.YtaneamfnjhiigaaECode
import Derived.Test.YtaneamfnjhiigaaProg
namespace Go.Proofs.Ytaneamfnjhiigaa.E
open Go
set_option maxRecDepth 100000
/-- func() -/
def te1 : TE := ⟨1, .func, 1, 8, [.nilFunc]⟩
theorem te1_ok : te1.ok Try.prog := ⟨⟨_, _, _, Try.underlying1⟩, _, _, rfl, rfl, rfl, rfl, rfl⟩
/-- int64 -/
def te2 : TE := ⟨2, (.int .i64), 1, 8, [.int .i64 0]⟩
theorem te2_ok : te2.ok Try.prog := ⟨Try.underlying2, _, _, rfl, rfl, rfl, rfl, rfl⟩
/-- int -/
def te3 : TE := ⟨3, (.int .i64), 1, 8, [.int .i64 0]⟩
theorem te3_ok : te3.ok Try.prog := ⟨Try.underlying3, _, _, rfl, rfl, rfl, rfl, rfl⟩
/-- bool -/
def te4 : TE := ⟨4, .bool, 1, 1, [.bool false]⟩
theorem te4_ok : te4.ok Try.prog := ⟨Try.underlying4, _, _, rfl, rfl, rfl, rfl, rfl⟩
/-- uint8 -/
def te5 : TE := ⟨5, (.int .u8), 1, 1, [.int .u8 0]⟩
theorem te5_ok : te5.ok Try.prog := ⟨Try.underlying5, _, _, rfl, rfl, rfl, rfl, rfl⟩
/-- string -/
def te9 : TE := ⟨9, .string, 1, 16, [.string ⟨#[]⟩]⟩
theorem te9_ok : te9.ok Try.prog := ⟨Try.underlying9, _, _, rfl, rfl, rfl, rfl, rfl⟩
/-- uintptr -/
def te12 : TE := ⟨12, (.int .u64), 1, 8, [.int .u64 0]⟩
theorem te12_ok : te12.ok Try.prog := ⟨Try.underlying12, _, _, rfl, rfl, rfl, rfl, rfl⟩
/-- int32 -/
def te21 : TE := ⟨21, (.int .i32), 1, 4, [.int .i32 0]⟩
theorem te21_ok : te21.ok Try.prog := ⟨Try.underlying21, _, _, rfl, rfl, rfl, rfl, rfl⟩
/-- struct { Floors int; Cars int; Start int; Step int; Stop int; Open int; Wait int; Close int; Nudge int; Age int; Silent int; Budget int; Period int } -/
def te22 : TE := ⟨22, (.struct [(3, 0), (3, 1), (3, 2), (3, 3), (3, 4), (3, 5), (3, 6), (3, 7), (3, 8), (3, 9), (3, 10), (3, 11), (3, 12)]), 13, 104, [.int .i64 0, .int .i64 0, .int .i64 0, .int .i64 0, .int .i64 0, .int .i64 0, .int .i64 0, .int .i64 0, .int .i64 0, .int .i64 0, .int .i64 0, .int .i64 0, .int .i64 0]⟩
theorem te22_ok : te22.ok Try.prog := ⟨⟨_, Try.underlying22, by kernel_rfl, by kernel_rfl, by kernel_rfl, by kernel_rfl⟩, _, _, rfl, rfl, rfl, rfl, rfl⟩
/-- api.Site -/
def te23 : TE := ⟨23, (.struct [(3, 0), (3, 1), (3, 2), (3, 3), (3, 4), (3, 5), (3, 6), (3, 7), (3, 8), (3, 9), (3, 10), (3, 11), (3, 12)]), 13, 104, [.int .i64 0, .int .i64 0, .int .i64 0, .int .i64 0, .int .i64 0, .int .i64 0, .int .i64 0, .int .i64 0, .int .i64 0, .int .i64 0, .int .i64 0, .int .i64 0, .int .i64 0]⟩
theorem te23_ok : te23.ok Try.prog := ⟨⟨_, Try.underlying23, by kernel_rfl, by kernel_rfl, by kernel_rfl, by kernel_rfl⟩, _, _, rfl, rfl, rfl, rfl, rfl⟩
/-- func() bool -/
def te24 : TE := ⟨24, .func, 1, 8, [.nilFunc]⟩
theorem te24_ok : te24.ok Try.prog := ⟨⟨_, _, _, Try.underlying24⟩, _, _, rfl, rfl, rfl, rfl, rfl⟩
/-- func(api.Site) bool -/
def te25 : TE := ⟨25, .func, 1, 8, [.nilFunc]⟩
theorem te25_ok : te25.ok Try.prog := ⟨⟨_, _, _, Try.underlying25⟩, _, _, rfl, rfl, rfl, rfl, rfl⟩
/-- []int -/
def te26 : TE := ⟨26, (.slice 3), 1, 24, [.slice none 0 0]⟩
theorem te26_ok : te26.ok Try.prog := ⟨Try.underlying26, _, _, rfl, rfl, rfl, rfl, rfl⟩
/-- func(api.Site, int, int) int -/
def te27 : TE := ⟨27, .func, 1, 8, [.nilFunc]⟩
theorem te27_ok : te27.ok Try.prog := ⟨⟨_, _, _, Try.underlying27⟩, _, _, rfl, rfl, rfl, rfl, rfl⟩
/-- func(api.Site, int) int -/
def te28 : TE := ⟨28, .func, 1, 8, [.nilFunc]⟩
theorem te28_ok : te28.ok Try.prog := ⟨⟨_, _, _, Try.underlying28⟩, _, _, rfl, rfl, rfl, rfl, rfl⟩
/-- func(api.Site, int, int, int, int) bool -/
def te29 : TE := ⟨29, .func, 1, 8, [.nilFunc]⟩
theorem te29_ok : te29.ok Try.prog := ⟨⟨_, _, _, Try.underlying29⟩, _, _, rfl, rfl, rfl, rfl, rfl⟩
/-- [][]int -/
def te30 : TE := ⟨30, (.slice 26), 1, 24, [.slice none 0 0]⟩
theorem te30_ok : te30.ok Try.prog := ⟨Try.underlying30, _, _, rfl, rfl, rfl, rfl, rfl⟩
/-- func(api.Site) [][]int -/
def te31 : TE := ⟨31, .func, 1, 8, [.nilFunc]⟩
theorem te31_ok : te31.ok Try.prog := ⟨⟨_, _, _, Try.underlying31⟩, _, _, rfl, rfl, rfl, rfl, rfl⟩
/-- func(api.Site, int, int, int) bool -/
def te32 : TE := ⟨32, .func, 1, 8, [.nilFunc]⟩
theorem te32_ok : te32.ok Try.prog := ⟨⟨_, _, _, Try.underlying32⟩, _, _, rfl, rfl, rfl, rfl, rfl⟩
/-- func(api.Site, int, int) bool -/
def te33 : TE := ⟨33, .func, 1, 8, [.nilFunc]⟩
theorem te33_ok : te33.ok Try.prog := ⟨⟨_, _, _, Try.underlying33⟩, _, _, rfl, rfl, rfl, rfl, rfl⟩
/-- []uint8 -/
def te34 : TE := ⟨34, (.slice 5), 1, 24, [.slice none 0 0]⟩
theorem te34_ok : te34.ok Try.prog := ⟨Try.underlying34, _, _, rfl, rfl, rfl, rfl, rfl⟩
/-- uint16 -/
def te35 : TE := ⟨35, (.int .u16), 1, 2, [.int .u16 0]⟩
theorem te35_ok : te35.ok Try.prog := ⟨Try.underlying35, _, _, rfl, rfl, rfl, rfl, rfl⟩
/-- func([]uint8) int -/
def te36 : TE := ⟨36, .func, 1, 8, [.nilFunc]⟩
theorem te36_ok : te36.ok Try.prog := ⟨⟨_, _, _, Try.underlying36⟩, _, _, rfl, rfl, rfl, rfl, rfl⟩
/-- uint -/
def te37 : TE := ⟨37, (.int .u64), 1, 8, [.int .u64 0]⟩
theorem te37_ok : te37.ok Try.prog := ⟨Try.underlying37, _, _, rfl, rfl, rfl, rfl, rfl⟩
/-- func([]uint8, int, uint16) bool -/
def te38 : TE := ⟨38, .func, 1, 8, [.nilFunc]⟩
theorem te38_ok : te38.ok Try.prog := ⟨⟨_, _, _, Try.underlying38⟩, _, _, rfl, rfl, rfl, rfl, rfl⟩
/-- struct { Kind int; Car int; Seq int; A int; B int; C int } -/
def te39 : TE := ⟨39, (.struct [(3, 0), (3, 1), (3, 2), (3, 3), (3, 4), (3, 5)]), 6, 48, [.int .i64 0, .int .i64 0, .int .i64 0, .int .i64 0, .int .i64 0, .int .i64 0]⟩
theorem te39_ok : te39.ok Try.prog := ⟨⟨_, Try.underlying39, by kernel_rfl, by kernel_rfl, by kernel_rfl, by kernel_rfl⟩, _, _, rfl, rfl, rfl, rfl, rfl⟩
/-- api.Frame -/
def te40 : TE := ⟨40, (.struct [(3, 0), (3, 1), (3, 2), (3, 3), (3, 4), (3, 5)]), 6, 48, [.int .i64 0, .int .i64 0, .int .i64 0, .int .i64 0, .int .i64 0, .int .i64 0]⟩
theorem te40_ok : te40.ok Try.prog := ⟨⟨_, Try.underlying40, by kernel_rfl, by kernel_rfl, by kernel_rfl, by kernel_rfl⟩, _, _, rfl, rfl, rfl, rfl, rfl⟩
/-- api.Errno -/
def te41 : TE := ⟨41, (.int .i64), 1, 8, [.int .i64 0]⟩
theorem te41_ok : te41.ok Try.prog := ⟨Try.underlying41, _, _, rfl, rfl, rfl, rfl, rfl⟩
/-- func([]uint8) (api.Frame, api.Errno) -/
def te43 : TE := ⟨43, .func, 1, 8, [.nilFunc]⟩
theorem te43_ok : te43.ok Try.prog := ⟨⟨_, _, _, Try.underlying43⟩, _, _, rfl, rfl, rfl, rfl, rfl⟩
/-- func([]uint8) (api.Frame, int) -/
def te45 : TE := ⟨45, .func, 1, 8, [.nilFunc]⟩
theorem te45_ok : te45.ok Try.prog := ⟨⟨_, _, _, Try.underlying45⟩, _, _, rfl, rfl, rfl, rfl, rfl⟩
/-- func(api.Frame) ([]uint8, api.Errno) -/
def te47 : TE := ⟨47, .func, 1, 8, [.nilFunc]⟩
theorem te47_ok : te47.ok Try.prog := ⟨⟨_, _, _, Try.underlying47⟩, _, _, rfl, rfl, rfl, rfl, rfl⟩
/-- func(api.Frame) bool -/
def te48 : TE := ⟨48, .func, 1, 8, [.nilFunc]⟩
theorem te48_ok : te48.ok Try.prog := ⟨⟨_, _, _, Try.underlying48⟩, _, _, rfl, rfl, rfl, rfl, rfl⟩
/-- func([]uint8, []uint8) bool -/
def te49 : TE := ⟨49, .func, 1, 8, [.nilFunc]⟩
theorem te49_ok : te49.ok Try.prog := ⟨⟨_, _, _, Try.underlying49⟩, _, _, rfl, rfl, rfl, rfl, rfl⟩
/-- func(api.Frame) []uint8 -/
def te50 : TE := ⟨50, .func, 1, 8, [.nilFunc]⟩
theorem te50_ok : te50.ok Try.prog := ⟨⟨_, _, _, Try.underlying50⟩, _, _, rfl, rfl, rfl, rfl, rfl⟩
/-- func(api.Frame, []uint8) bool -/
def te51 : TE := ⟨51, .func, 1, 8, [.nilFunc]⟩
theorem te51_ok : te51.ok Try.prog := ⟨⟨_, _, _, Try.underlying51⟩, _, _, rfl, rfl, rfl, rfl, rfl⟩
/-- func(api.Frame, api.Frame, int) bool -/
def te52 : TE := ⟨52, .func, 1, 8, [.nilFunc]⟩
theorem te52_ok : te52.ok Try.prog := ⟨⟨_, _, _, Try.underlying52⟩, _, _, rfl, rfl, rfl, rfl, rfl⟩
/-- [][]uint8 -/
def te53 : TE := ⟨53, (.slice 34), 1, 24, [.slice none 0 0]⟩
theorem te53_ok : te53.ok Try.prog := ⟨Try.underlying53, _, _, rfl, rfl, rfl, rfl, rfl⟩
/-- *frame.Scanner -/
def te54 : TE := ⟨54, (.pointer 56), 1, 8, [.pointer none]⟩
theorem te54_ok : te54.ok Try.prog := ⟨Try.underlying54, _, _, rfl, rfl, rfl, rfl, rfl⟩
/-- struct { left []uint8 } -/
def te55 : TE := ⟨55, (.struct [(34, 0)]), 1, 24, [.slice none 0 0]⟩
theorem te55_ok : te55.ok Try.prog := ⟨⟨_, Try.underlying55, by kernel_rfl, by kernel_rfl, by kernel_rfl, by kernel_rfl⟩, _, _, rfl, rfl, rfl, rfl, rfl⟩
/-- frame.Scanner -/
def te56 : TE := ⟨56, (.struct [(34, 0)]), 1, 24, [.slice none 0 0]⟩
theorem te56_ok : te56.ok Try.prog := ⟨⟨_, Try.underlying56, by kernel_rfl, by kernel_rfl, by kernel_rfl, by kernel_rfl⟩, _, _, rfl, rfl, rfl, rfl, rfl⟩
/-- []api.Frame -/
def te57 : TE := ⟨57, (.slice 40), 1, 24, [.slice none 0 0]⟩
theorem te57_ok : te57.ok Try.prog := ⟨Try.underlying57, _, _, rfl, rfl, rfl, rfl, rfl⟩
/-- func([]uint8) ([]api.Frame, int) -/
def te59 : TE := ⟨59, .func, 1, 8, [.nilFunc]⟩
theorem te59_ok : te59.ok Try.prog := ⟨⟨_, _, _, Try.underlying59⟩, _, _, rfl, rfl, rfl, rfl, rfl⟩
/-- func([]uint8) ([]api.Frame, int, []uint8) -/
def te61 : TE := ⟨61, .func, 1, 8, [.nilFunc]⟩
theorem te61_ok : te61.ok Try.prog := ⟨⟨_, _, _, Try.underlying61⟩, _, _, rfl, rfl, rfl, rfl, rfl⟩
/-- func([]api.Frame, []api.Frame) bool -/
def te62 : TE := ⟨62, .func, 1, 8, [.nilFunc]⟩
theorem te62_ok : te62.ok Try.prog := ⟨⟨_, _, _, Try.underlying62⟩, _, _, rfl, rfl, rfl, rfl, rfl⟩
/-- func([][]uint8) bool -/
def te63 : TE := ⟨63, .func, 1, 8, [.nilFunc]⟩
theorem te63_ok : te63.ok Try.prog := ⟨⟨_, _, _, Try.underlying63⟩, _, _, rfl, rfl, rfl, rfl, rfl⟩
/-- func([]api.Frame, []uint8, int) bool -/
def te64 : TE := ⟨64, .func, 1, 8, [.nilFunc]⟩
theorem te64_ok : te64.ok Try.prog := ⟨⟨_, _, _, Try.underlying64⟩, _, _, rfl, rfl, rfl, rfl, rfl⟩
/-- func(int, int, int) bool -/
def te65 : TE := ⟨65, .func, 1, 8, [.nilFunc]⟩
theorem te65_ok : te65.ok Try.prog := ⟨⟨_, _, _, Try.underlying65⟩, _, _, rfl, rfl, rfl, rfl, rfl⟩
/-- func(...int) int -/
def te66 : TE := ⟨66, .func, 1, 8, [.nilFunc]⟩
theorem te66_ok : te66.ok Try.prog := ⟨⟨_, _, _, Try.underlying66⟩, _, _, rfl, rfl, rfl, rfl, rfl⟩
/-- func(int, int) int -/
def te67 : TE := ⟨67, .func, 1, 8, [.nilFunc]⟩
theorem te67_ok : te67.ok Try.prog := ⟨⟨_, _, _, Try.underlying67⟩, _, _, rfl, rfl, rfl, rfl, rfl⟩
/-- func(func(int, [2]int) bool) -/
def te68 : TE := ⟨68, .func, 1, 8, [.nilFunc]⟩
theorem te68_ok : te68.ok Try.prog := ⟨⟨_, _, _, Try.underlying68⟩, _, _, rfl, rfl, rfl, rfl, rfl⟩
/-- func(api.Site) func(func(int, [2]int) bool) -/
def te69 : TE := ⟨69, .func, 1, 8, [.nilFunc]⟩
theorem te69_ok : te69.ok Try.prog := ⟨⟨_, _, _, Try.underlying69⟩, _, _, rfl, rfl, rfl, rfl, rfl⟩
/-- [2]int -/
def te70 : TE := ⟨70, (.array 2 3), 2, 16, [.int .i64 0, .int .i64 0]⟩
theorem te70_ok : te70.ok Try.prog := ⟨Try.underlying70, _, _, rfl, rfl, rfl, rfl, rfl⟩
/-- func(int) []uint8 -/
def te71 : TE := ⟨71, .func, 1, 8, [.nilFunc]⟩
theorem te71_ok : te71.ok Try.prog := ⟨⟨_, _, _, Try.underlying71⟩, _, _, rfl, rfl, rfl, rfl, rfl⟩
/-- func(int) bool -/
def te72 : TE := ⟨72, .func, 1, 8, [.nilFunc]⟩
theorem te72_ok : te72.ok Try.prog := ⟨⟨_, _, _, Try.underlying72⟩, _, _, rfl, rfl, rfl, rfl, rfl⟩
/-- func(int, ...int) bool -/
def te73 : TE := ⟨73, .func, 1, 8, [.nilFunc]⟩
theorem te73_ok : te73.ok Try.prog := ⟨⟨_, _, _, Try.underlying73⟩, _, _, rfl, rfl, rfl, rfl, rfl⟩
/-- func(...[]uint8) []uint8 -/
def te74 : TE := ⟨74, .func, 1, 8, [.nilFunc]⟩
theorem te74_ok : te74.ok Try.prog := ⟨⟨_, _, _, Try.underlying74⟩, _, _, rfl, rfl, rfl, rfl, rfl⟩
/-- func([]uint8) []uint8 -/
def te75 : TE := ⟨75, .func, 1, 8, [.nilFunc]⟩
theorem te75_ok : te75.ok Try.prog := ⟨⟨_, _, _, Try.underlying75⟩, _, _, rfl, rfl, rfl, rfl, rfl⟩
/-- func(int) int -/
def te76 : TE := ⟨76, .func, 1, 8, [.nilFunc]⟩
theorem te76_ok : te76.ok Try.prog := ⟨⟨_, _, _, Try.underlying76⟩, _, _, rfl, rfl, rfl, rfl, rfl⟩
/-- uint64 -/
def te77 : TE := ⟨77, (.int .u64), 1, 8, [.int .u64 0]⟩
theorem te77_ok : te77.ok Try.prog := ⟨Try.underlying77, _, _, rfl, rfl, rfl, rfl, rfl⟩
/-- func(uint64, uint64) (uint64, uint64) -/
def te79 : TE := ⟨79, .func, 1, 8, [.nilFunc]⟩
theorem te79_ok : te79.ok Try.prog := ⟨⟨_, _, _, Try.underlying79⟩, _, _, rfl, rfl, rfl, rfl, rfl⟩
/-- func(int) uint64 -/
def te80 : TE := ⟨80, .func, 1, 8, [.nilFunc]⟩
theorem te80_ok : te80.ok Try.prog := ⟨⟨_, _, _, Try.underlying80⟩, _, _, rfl, rfl, rfl, rfl, rfl⟩
/-- func(int, [2]int) bool -/
def te81 : TE := ⟨81, .func, 1, 8, [.nilFunc]⟩
theorem te81_ok : te81.ok Try.prog := ⟨⟨_, _, _, Try.underlying81⟩, _, _, rfl, rfl, rfl, rfl, rfl⟩
/-- func([]int, func(int) bool) bool -/
def te82 : TE := ⟨82, .func, 1, 8, [.nilFunc]⟩
theorem te82_ok : te82.ok Try.prog := ⟨⟨_, _, _, Try.underlying82⟩, _, _, rfl, rfl, rfl, rfl, rfl⟩
/-- func([]uint8, int) []uint8 -/
def te83 : TE := ⟨83, .func, 1, 8, [.nilFunc]⟩
theorem te83_ok : te83.ok Try.prog := ⟨⟨_, _, _, Try.underlying83⟩, _, _, rfl, rfl, rfl, rfl, rfl⟩
/-- func([]int, func(int) bool) int -/
def te84 : TE := ⟨84, .func, 1, 8, [.nilFunc]⟩
theorem te84_ok : te84.ok Try.prog := ⟨⟨_, _, _, Try.underlying84⟩, _, _, rfl, rfl, rfl, rfl, rfl⟩
/-- func() string -/
def te85 : TE := ⟨85, .func, 1, 8, [.nilFunc]⟩
theorem te85_ok : te85.ok Try.prog := ⟨⟨_, _, _, Try.underlying85⟩, _, _, rfl, rfl, rfl, rfl, rfl⟩
/-- func() int -/
def te91 : TE := ⟨91, .func, 1, 8, [.nilFunc]⟩
theorem te91_ok : te91.ok Try.prog := ⟨⟨_, _, _, Try.underlying91⟩, _, _, rfl, rfl, rfl, rfl, rfl⟩
/-- uint32 -/
def te92 : TE := ⟨92, (.int .u32), 1, 4, [.int .u32 0]⟩
theorem te92_ok : te92.ok Try.prog := ⟨Try.underlying92, _, _, rfl, rfl, rfl, rfl, rfl⟩
/-- func(unsafe.Pointer, unsafe.Pointer) bool -/
def te95 : TE := ⟨95, .func, 1, 8, [.nilFunc]⟩
theorem te95_ok : te95.ok Try.prog := ⟨⟨_, _, _, Try.underlying95⟩, _, _, rfl, rfl, rfl, rfl, rfl⟩
/-- *uint8 -/
def te96 : TE := ⟨96, (.pointer 5), 1, 8, [.pointer none]⟩
theorem te96_ok : te96.ok Try.prog := ⟨Try.underlying96, _, _, rfl, rfl, rfl, rfl, rfl⟩
def tt : List TE := [te1, te2, te3, te4, te5, te9, te12, te21, te22, te23, te24, te25, te26, te27, te28, te29, te30, te31, te32, te33, te34, te35, te36, te37, te38, te39, te40, te41, te43, te45, te47, te48, te49, te50, te51, te52, te53, te54, te55, te56, te57, te59, te61, te62, te63, te64, te65, te66, te67, te68, te69, te70, te71, te72, te73, te74, te75, te76, te77, te79, te80, te81, te82, te83, te84, te85, te91, te92, te95, te96]
theorem tt_ok : TTok Try.prog tt := by
  intro e he
  simp only [tt, List.mem_cons, List.not_mem_nil, or_false] at he
  rcases he with rfl | rfl | rfl | rfl | rfl | rfl | rfl | rfl | rfl | rfl | rfl | rfl | rfl | rfl | rfl | rfl | rfl | rfl | rfl | rfl | rfl | rfl | rfl | rfl | rfl | rfl | rfl | rfl | rfl | rfl | rfl | rfl | rfl | rfl | rfl | rfl | rfl | rfl | rfl | rfl | rfl | rfl | rfl | rfl | rfl | rfl | rfl | rfl | rfl | rfl | rfl | rfl | rfl | rfl | rfl | rfl | rfl | rfl | rfl | rfl | rfl | rfl | rfl | rfl | rfl | rfl | rfl | rfl | rfl | rfl
  · exact te1_ok
  · exact te2_ok
  · exact te3_ok
  · exact te4_ok
  · exact te5_ok
  · exact te9_ok
  · exact te12_ok
  · exact te21_ok
  · exact te22_ok
  · exact te23_ok
  · exact te24_ok
  · exact te25_ok
  · exact te26_ok
  · exact te27_ok
  · exact te28_ok
  · exact te29_ok
  · exact te30_ok
  · exact te31_ok
  · exact te32_ok
  · exact te33_ok
  · exact te34_ok
  · exact te35_ok
  · exact te36_ok
  · exact te37_ok
  · exact te38_ok
  · exact te39_ok
  · exact te40_ok
  · exact te41_ok
  · exact te43_ok
  · exact te45_ok
  · exact te47_ok
  · exact te48_ok
  · exact te49_ok
  · exact te50_ok
  · exact te51_ok
  · exact te52_ok
  · exact te53_ok
  · exact te54_ok
  · exact te55_ok
  · exact te56_ok
  · exact te57_ok
  · exact te59_ok
  · exact te61_ok
  · exact te62_ok
  · exact te63_ok
  · exact te64_ok
  · exact te65_ok
  · exact te66_ok
  · exact te67_ok
  · exact te68_ok
  · exact te69_ok
  · exact te70_ok
  · exact te71_ok
  · exact te72_ok
  · exact te73_ok
  · exact te74_ok
  · exact te75_ok
  · exact te76_ok
  · exact te77_ok
  · exact te79_ok
  · exact te80_ok
  · exact te81_ok
  · exact te82_ok
  · exact te83_ok
  · exact te84_ok
  · exact te85_ok
  · exact te91_ok
  · exact te92_ok
  · exact te95_ok
  · exact te96_ok
theorem mixed : Try.prog.follows .mixedOrders = true := by kernel_rfl
end Go.Proofs.Ytaneamfnjhiigaa.E
