/- The engine's table of this seat's types, each held against the program. -/
import Derived.Test.YthdeehkmlaejfaaEngD
import Derived.Test.YthdeehkmlaejfaaProg
namespace Go.Proofs.Ythdeehkmlaejfaa.E
open Go
set_option maxRecDepth 100000
/-- func() -/
def te1 : TE := ⟨1, .func, 1, 8, [.nilFunc], true⟩
theorem te1_ok : te1.ok Try.prog := ⟨⟨_, _, _, Try.underlying1⟩, _, _, rfl, rfl, rfl, rfl, rfl, rfl⟩
/-- int64 -/
def te2 : TE := ⟨2, (.int .i64), 1, 8, [.int .i64 0], true⟩
theorem te2_ok : te2.ok Try.prog := ⟨Try.underlying2, _, _, rfl, rfl, rfl, rfl, rfl, rfl⟩
/-- int -/
def te3 : TE := ⟨3, (.int .i64), 1, 8, [.int .i64 0], true⟩
theorem te3_ok : te3.ok Try.prog := ⟨Try.underlying3, _, _, rfl, rfl, rfl, rfl, rfl, rfl⟩
/-- bool -/
def te4 : TE := ⟨4, .bool, 1, 1, [.bool false], true⟩
theorem te4_ok : te4.ok Try.prog := ⟨Try.underlying4, _, _, rfl, rfl, rfl, rfl, rfl, rfl⟩
/-- uint8 -/
def te5 : TE := ⟨5, (.int .u8), 1, 1, [.int .u8 0], true⟩
theorem te5_ok : te5.ok Try.prog := ⟨Try.underlying5, _, _, rfl, rfl, rfl, rfl, rfl, rfl⟩
/-- string -/
def te9 : TE := ⟨9, .string, 1, 16, [.string ⟨#[]⟩], true⟩
theorem te9_ok : te9.ok Try.prog := ⟨Try.underlying9, _, _, rfl, rfl, rfl, rfl, rfl, rfl⟩
/-- uintptr -/
def te12 : TE := ⟨12, (.int .u64), 1, 8, [.int .u64 0], true⟩
theorem te12_ok : te12.ok Try.prog := ⟨Try.underlying12, _, _, rfl, rfl, rfl, rfl, rfl, rfl⟩
/-- int32 -/
def te21 : TE := ⟨21, (.int .i32), 1, 4, [.int .i32 0], true⟩
theorem te21_ok : te21.ok Try.prog := ⟨Try.underlying21, _, _, rfl, rfl, rfl, rfl, rfl, rfl⟩
/-- struct { Floors int; Cars int; Start int; Step int; Stop int; Open int; Wait int; Close int; Nudge int; Age int; Silent int; Budget int; Period int } -/
def te22 : TE := ⟨22, (.struct [(3, 0), (3, 1), (3, 2), (3, 3), (3, 4), (3, 5), (3, 6), (3, 7), (3, 8), (3, 9), (3, 10), (3, 11), (3, 12)]), 13, 104, [.int .i64 0, .int .i64 0, .int .i64 0, .int .i64 0, .int .i64 0, .int .i64 0, .int .i64 0, .int .i64 0, .int .i64 0, .int .i64 0, .int .i64 0, .int .i64 0, .int .i64 0], true⟩
theorem te22_ok : te22.ok Try.prog := ⟨⟨_, Try.underlying22, by kernel_rfl, by kernel_rfl, by kernel_rfl, by kernel_rfl⟩, _, _, rfl, rfl, rfl, rfl, rfl, rfl⟩
/-- api.Site -/
def te23 : TE := ⟨23, (.struct [(3, 0), (3, 1), (3, 2), (3, 3), (3, 4), (3, 5), (3, 6), (3, 7), (3, 8), (3, 9), (3, 10), (3, 11), (3, 12)]), 13, 104, [.int .i64 0, .int .i64 0, .int .i64 0, .int .i64 0, .int .i64 0, .int .i64 0, .int .i64 0, .int .i64 0, .int .i64 0, .int .i64 0, .int .i64 0, .int .i64 0, .int .i64 0], true⟩
theorem te23_ok : te23.ok Try.prog := ⟨⟨_, Try.underlying23, by kernel_rfl, by kernel_rfl, by kernel_rfl, by kernel_rfl⟩, _, _, rfl, rfl, rfl, rfl, rfl, rfl⟩
/-- []api.Car -/
def te24 : TE := ⟨24, (.slice 32), 1, 24, [.slice none 0 0], true⟩
theorem te24_ok : te24.ok Try.prog := ⟨Try.underlying24, _, _, rfl, rfl, rfl, rfl, rfl, rfl⟩
/-- []api.Command -/
def te25 : TE := ⟨25, (.slice 36), 1, 24, [.slice none 0 0], true⟩
theorem te25_ok : te25.ok Try.prog := ⟨Try.underlying25, _, _, rfl, rfl, rfl, rfl, rfl, rfl⟩
/-- []api.Call -/
def te26 : TE := ⟨26, (.slice 39), 1, 24, [.slice none 0 0], true⟩
theorem te26_ok : te26.ok Try.prog := ⟨Try.underlying26, _, _, rfl, rfl, rfl, rfl, rfl, rfl⟩
/-- func() bool -/
def te27 : TE := ⟨27, .func, 1, 8, [.nilFunc], true⟩
theorem te27_ok : te27.ok Try.prog := ⟨⟨_, _, _, Try.underlying27⟩, _, _, rfl, rfl, rfl, rfl, rfl, rfl⟩
/-- func(api.Site) bool -/
def te28 : TE := ⟨28, .func, 1, 8, [.nilFunc], true⟩
theorem te28_ok : te28.ok Try.prog := ⟨⟨_, _, _, Try.underlying28⟩, _, _, rfl, rfl, rfl, rfl, rfl, rfl⟩
/-- struct { Phase int; Left int; Runs int; Held bool } -/
def te29 : TE := ⟨29, (.struct [(3, 0), (3, 1), (3, 2), (4, 3)]), 4, 32, [.int .i64 0, .int .i64 0, .int .i64 0, .bool false], true⟩
theorem te29_ok : te29.ok Try.prog := ⟨⟨_, Try.underlying29, by kernel_rfl, by kernel_rfl, by kernel_rfl, by kernel_rfl⟩, _, _, rfl, rfl, rfl, rfl, rfl, rfl⟩
/-- api.Door -/
def te30 : TE := ⟨30, (.struct [(3, 0), (3, 1), (3, 2), (4, 3)]), 4, 32, [.int .i64 0, .int .i64 0, .int .i64 0, .bool false], true⟩
theorem te30_ok : te30.ok Try.prog := ⟨⟨_, Try.underlying30, by kernel_rfl, by kernel_rfl, by kernel_rfl, by kernel_rfl⟩, _, _, rfl, rfl, rfl, rfl, rfl, rfl⟩
/-- struct { Floor int; Target int; Ticks int; Door api.Door; Fault bool } -/
def te31 : TE := ⟨31, (.struct [(3, 0), (3, 1), (3, 2), (30, 3), (4, 7)]), 8, 64, [.int .i64 0, .int .i64 0, .int .i64 0, .int .i64 0, .int .i64 0, .int .i64 0, .bool false, .bool false], true⟩
theorem te31_ok : te31.ok Try.prog := ⟨⟨_, Try.underlying31, by kernel_rfl, by kernel_rfl, by kernel_rfl, by kernel_rfl⟩, _, _, rfl, rfl, rfl, rfl, rfl, rfl⟩
/-- api.Car -/
def te32 : TE := ⟨32, (.struct [(3, 0), (3, 1), (3, 2), (30, 3), (4, 7)]), 8, 64, [.int .i64 0, .int .i64 0, .int .i64 0, .int .i64 0, .int .i64 0, .int .i64 0, .bool false, .bool false], true⟩
theorem te32_ok : te32.ok Try.prog := ⟨⟨_, Try.underlying32, by kernel_rfl, by kernel_rfl, by kernel_rfl, by kernel_rfl⟩, _, _, rfl, rfl, rfl, rfl, rfl, rfl⟩
/-- func(api.Site, api.Car) bool -/
def te33 : TE := ⟨33, .func, 1, 8, [.nilFunc], true⟩
theorem te33_ok : te33.ok Try.prog := ⟨⟨_, _, _, Try.underlying33⟩, _, _, rfl, rfl, rfl, rfl, rfl, rfl⟩
/-- func(api.Site, api.Car, api.Command, bool) api.Car -/
def te34 : TE := ⟨34, .func, 1, 8, [.nilFunc], true⟩
theorem te34_ok : te34.ok Try.prog := ⟨⟨_, _, _, Try.underlying34⟩, _, _, rfl, rfl, rfl, rfl, rfl, rfl⟩
/-- struct { Open bool; Go int } -/
def te35 : TE := ⟨35, (.struct [(4, 0), (3, 1)]), 2, 16, [.bool false, .int .i64 0], true⟩
theorem te35_ok : te35.ok Try.prog := ⟨⟨_, Try.underlying35, by kernel_rfl, by kernel_rfl, by kernel_rfl, by kernel_rfl⟩, _, _, rfl, rfl, rfl, rfl, rfl, rfl⟩
/-- api.Command -/
def te36 : TE := ⟨36, (.struct [(4, 0), (3, 1)]), 2, 16, [.bool false, .int .i64 0], true⟩
theorem te36_ok : te36.ok Try.prog := ⟨⟨_, Try.underlying36, by kernel_rfl, by kernel_rfl, by kernel_rfl, by kernel_rfl⟩, _, _, rfl, rfl, rfl, rfl, rfl, rfl⟩
/-- map[api.Call]bool -/
def te37 : TE := ⟨37, (.map 39 4), 1, 8, [.map none], true⟩
theorem te37_ok : te37.ok Try.prog := ⟨Try.underlying37, _, _, rfl, rfl, rfl, rfl, rfl, rfl⟩
/-- struct { Floor int; Car int; Age int; Up bool } -/
def te38 : TE := ⟨38, (.struct [(3, 0), (3, 1), (3, 2), (4, 3)]), 4, 32, [.int .i64 0, .int .i64 0, .int .i64 0, .bool false], true⟩
theorem te38_ok : te38.ok Try.prog := ⟨⟨_, Try.underlying38, by kernel_rfl, by kernel_rfl, by kernel_rfl, by kernel_rfl⟩, _, _, rfl, rfl, rfl, rfl, rfl, rfl⟩
/-- api.Call -/
def te39 : TE := ⟨39, (.struct [(3, 0), (3, 1), (3, 2), (4, 3)]), 4, 32, [.int .i64 0, .int .i64 0, .int .i64 0, .bool false], true⟩
theorem te39_ok : te39.ok Try.prog := ⟨⟨_, Try.underlying39, by kernel_rfl, by kernel_rfl, by kernel_rfl, by kernel_rfl⟩, _, _, rfl, rfl, rfl, rfl, rfl, rfl⟩
/-- []int -/
def te40 : TE := ⟨40, (.slice 3), 1, 24, [.slice none 0 0], true⟩
theorem te40_ok : te40.ok Try.prog := ⟨Try.underlying40, _, _, rfl, rfl, rfl, rfl, rfl, rfl⟩
/-- func(api.Site, []api.Car, []api.Car, []api.Call, []api.Call, bool) []int -/
def te41 : TE := ⟨41, .func, 1, 8, [.nilFunc], true⟩
theorem te41_ok : te41.ok Try.prog := ⟨⟨_, _, _, Try.underlying41⟩, _, _, rfl, rfl, rfl, rfl, rfl, rfl⟩
/-- func([]int, []int) bool -/
def te42 : TE := ⟨42, .func, 1, 8, [.nilFunc], true⟩
theorem te42_ok : te42.ok Try.prog := ⟨⟨_, _, _, Try.underlying42⟩, _, _, rfl, rfl, rfl, rfl, rfl, rfl⟩
/-- func(api.Site, []api.Car, []api.Command, []api.Call, int) bool -/
def te43 : TE := ⟨43, .func, 1, 8, [.nilFunc], true⟩
theorem te43_ok : te43.ok Try.prog := ⟨⟨_, _, _, Try.underlying43⟩, _, _, rfl, rfl, rfl, rfl, rfl, rfl⟩
/-- func(api.Site, int, int, int, int) bool -/
def te44 : TE := ⟨44, .func, 1, 8, [.nilFunc], true⟩
theorem te44_ok : te44.ok Try.prog := ⟨⟨_, _, _, Try.underlying44⟩, _, _, rfl, rfl, rfl, rfl, rfl, rfl⟩
/-- func(api.Site, api.Door) bool -/
def te45 : TE := ⟨45, .func, 1, 8, [.nilFunc], true⟩
theorem te45_ok : te45.ok Try.prog := ⟨⟨_, _, _, Try.underlying45⟩, _, _, rfl, rfl, rfl, rfl, rfl, rfl⟩
/-- func(api.Site, int, int) int -/
def te46 : TE := ⟨46, .func, 1, 8, [.nilFunc], true⟩
theorem te46_ok : te46.ok Try.prog := ⟨⟨_, _, _, Try.underlying46⟩, _, _, rfl, rfl, rfl, rfl, rfl, rfl⟩
/-- func(api.Site, api.Door, bool, bool) api.Door -/
def te47 : TE := ⟨47, .func, 1, 8, [.nilFunc], true⟩
theorem te47_ok : te47.ok Try.prog := ⟨⟨_, _, _, Try.underlying47⟩, _, _, rfl, rfl, rfl, rfl, rfl, rfl⟩
/-- map[int]bool -/
def te48 : TE := ⟨48, (.map 3 4), 1, 8, [.map none], true⟩
theorem te48_ok : te48.ok Try.prog := ⟨Try.underlying48, _, _, rfl, rfl, rfl, rfl, rfl, rfl⟩
/-- func(api.Site, []api.Car, []api.Car) bool -/
def te49 : TE := ⟨49, .func, 1, 8, [.nilFunc], true⟩
theorem te49_ok : te49.ok Try.prog := ⟨⟨_, _, _, Try.underlying49⟩, _, _, rfl, rfl, rfl, rfl, rfl, rfl⟩
/-- func([]api.Car, []api.Car) bool -/
def te50 : TE := ⟨50, .func, 1, 8, [.nilFunc], true⟩
theorem te50_ok : te50.ok Try.prog := ⟨⟨_, _, _, Try.underlying50⟩, _, _, rfl, rfl, rfl, rfl, rfl, rfl⟩
/-- map[api.Call]int -/
def te51 : TE := ⟨51, (.map 39 3), 1, 8, [.map none], true⟩
theorem te51_ok : te51.ok Try.prog := ⟨Try.underlying51, _, _, rfl, rfl, rfl, rfl, rfl, rfl⟩
/-- func([]api.Call) (map[api.Call]int, bool) -/
def te53 : TE := ⟨53, .func, 1, 8, [.nilFunc], true⟩
theorem te53_ok : te53.ok Try.prog := ⟨⟨_, _, _, Try.underlying53⟩, _, _, rfl, rfl, rfl, rfl, rfl, rfl⟩
/-- func([]api.Car, api.Call) bool -/
def te55 : TE := ⟨55, .func, 1, 8, [.nilFunc], true⟩
theorem te55_ok : te55.ok Try.prog := ⟨⟨_, _, _, Try.underlying55⟩, _, _, rfl, rfl, rfl, rfl, rfl, rfl⟩
/-- func(api.Call) api.Call -/
def te56 : TE := ⟨56, .func, 1, 8, [.nilFunc], true⟩
theorem te56_ok : te56.ok Try.prog := ⟨⟨_, _, _, Try.underlying56⟩, _, _, rfl, rfl, rfl, rfl, rfl, rfl⟩
/-- func(int, int) int -/
def te57 : TE := ⟨57, .func, 1, 8, [.nilFunc], true⟩
theorem te57_ok : te57.ok Try.prog := ⟨⟨_, _, _, Try.underlying57⟩, _, _, rfl, rfl, rfl, rfl, rfl, rfl⟩
/-- func(iter.Seq[int]) []int -/
def te58 : TE := ⟨58, .func, 1, 8, [.nilFunc], true⟩
theorem te58_ok : te58.ok Try.prog := ⟨⟨_, _, _, Try.underlying58⟩, _, _, rfl, rfl, rfl, rfl, rfl, rfl⟩
/-- func(func(int) bool) -/
def te59 : TE := ⟨59, .func, 1, 8, [.nilFunc], true⟩
theorem te59_ok : te59.ok Try.prog := ⟨⟨_, _, _, Try.underlying59⟩, _, _, rfl, rfl, rfl, rfl, rfl, rfl⟩
/-- iter.Seq[int] -/
def te60 : TE := ⟨60, .func, 1, 8, [.nilFunc], true⟩
theorem te60_ok : te60.ok Try.prog := ⟨⟨_, _, _, Try.underlying60⟩, _, _, rfl, rfl, rfl, rfl, rfl, rfl⟩
/-- func(map[int]bool) iter.Seq[int] -/
def te61 : TE := ⟨61, .func, 1, 8, [.nilFunc], true⟩
theorem te61_ok : te61.ok Try.prog := ⟨⟨_, _, _, Try.underlying61⟩, _, _, rfl, rfl, rfl, rfl, rfl, rfl⟩
/-- func(api.Site, api.Car, api.Car) bool -/
def te62 : TE := ⟨62, .func, 1, 8, [.nilFunc], true⟩
theorem te62_ok : te62.ok Try.prog := ⟨⟨_, _, _, Try.underlying62⟩, _, _, rfl, rfl, rfl, rfl, rfl, rfl⟩
/-- func(int) int -/
def te63 : TE := ⟨63, .func, 1, 8, [.nilFunc], true⟩
theorem te63_ok : te63.ok Try.prog := ⟨⟨_, _, _, Try.underlying63⟩, _, _, rfl, rfl, rfl, rfl, rfl, rfl⟩
/-- func([]int) -/
def te64 : TE := ⟨64, .func, 1, 8, [.nilFunc], true⟩
theorem te64_ok : te64.ok Try.prog := ⟨⟨_, _, _, Try.underlying64⟩, _, _, rfl, rfl, rfl, rfl, rfl, rfl⟩
/-- func(int) bool -/
def te65 : TE := ⟨65, .func, 1, 8, [.nilFunc], true⟩
theorem te65_ok : te65.ok Try.prog := ⟨⟨_, _, _, Try.underlying65⟩, _, _, rfl, rfl, rfl, rfl, rfl, rfl⟩
/-- func(api.Car) bool -/
def te66 : TE := ⟨66, .func, 1, 8, [.nilFunc], true⟩
theorem te66_ok : te66.ok Try.prog := ⟨⟨_, _, _, Try.underlying66⟩, _, _, rfl, rfl, rfl, rfl, rfl, rfl⟩
/-- struct { floor int; target int; ticks int } -/
def te67 : TE := ⟨67, (.struct [(3, 0), (3, 1), (3, 2)]), 3, 24, [.int .i64 0, .int .i64 0, .int .i64 0], true⟩
theorem te67_ok : te67.ok Try.prog := ⟨⟨_, Try.underlying67, by kernel_rfl, by kernel_rfl, by kernel_rfl, by kernel_rfl⟩, _, _, rfl, rfl, rfl, rfl, rfl, rfl⟩
/-- car.way -/
def te68 : TE := ⟨68, (.struct [(3, 0), (3, 1), (3, 2)]), 3, 24, [.int .i64 0, .int .i64 0, .int .i64 0], true⟩
theorem te68_ok : te68.ok Try.prog := ⟨⟨_, Try.underlying68, by kernel_rfl, by kernel_rfl, by kernel_rfl, by kernel_rfl⟩, _, _, rfl, rfl, rfl, rfl, rfl, rfl⟩
/-- func([]int, iter.Seq[int]) []int -/
def te69 : TE := ⟨69, .func, 1, 8, [.nilFunc], true⟩
theorem te69_ok : te69.ok Try.prog := ⟨⟨_, _, _, Try.underlying69⟩, _, _, rfl, rfl, rfl, rfl, rfl, rfl⟩
/-- func([]int, int, int, int) -/
def te70 : TE := ⟨70, .func, 1, 8, [.nilFunc], true⟩
theorem te70_ok : te70.ok Try.prog := ⟨⟨_, _, _, Try.underlying70⟩, _, _, rfl, rfl, rfl, rfl, rfl, rfl⟩
/-- func(uint) int -/
def te71 : TE := ⟨71, .func, 1, 8, [.nilFunc], true⟩
theorem te71_ok : te71.ok Try.prog := ⟨⟨_, _, _, Try.underlying71⟩, _, _, rfl, rfl, rfl, rfl, rfl, rfl⟩
/-- uint -/
def te72 : TE := ⟨72, (.int .u64), 1, 8, [.int .u64 0], true⟩
theorem te72_ok : te72.ok Try.prog := ⟨Try.underlying72, _, _, rfl, rfl, rfl, rfl, rfl, rfl⟩
/-- func(api.Site, int) bool -/
def te73 : TE := ⟨73, .func, 1, 8, [.nilFunc], true⟩
theorem te73_ok : te73.ok Try.prog := ⟨⟨_, _, _, Try.underlying73⟩, _, _, rfl, rfl, rfl, rfl, rfl, rfl⟩
/-- func([]int, int, int) -/
def te74 : TE := ⟨74, .func, 1, 8, [.nilFunc], true⟩
theorem te74_ok : te74.ok Try.prog := ⟨⟨_, _, _, Try.underlying74⟩, _, _, rfl, rfl, rfl, rfl, rfl, rfl⟩
/-- slices.sortedHint -/
def te75 : TE := ⟨75, (.int .i64), 1, 8, [.int .i64 0], true⟩
theorem te75_ok : te75.ok Try.prog := ⟨Try.underlying75, _, _, rfl, rfl, rfl, rfl, rfl, rfl⟩
/-- func([]int, int, int) (int, slices.sortedHint) -/
def te77 : TE := ⟨77, .func, 1, 8, [.nilFunc], true⟩
theorem te77_ok : te77.ok Try.prog := ⟨⟨_, _, _, Try.underlying77⟩, _, _, rfl, rfl, rfl, rfl, rfl, rfl⟩
/-- func([]int, int, int) bool -/
def te78 : TE := ⟨78, .func, 1, 8, [.nilFunc], true⟩
theorem te78_ok : te78.ok Try.prog := ⟨⟨_, _, _, Try.underlying78⟩, _, _, rfl, rfl, rfl, rfl, rfl, rfl⟩
/-- func(int, int) bool -/
def te79 : TE := ⟨79, .func, 1, 8, [.nilFunc], true⟩
theorem te79_ok : te79.ok Try.prog := ⟨⟨_, _, _, Try.underlying79⟩, _, _, rfl, rfl, rfl, rfl, rfl, rfl⟩
/-- func([]int, int, int, int) int -/
def te80 : TE := ⟨80, .func, 1, 8, [.nilFunc], true⟩
theorem te80_ok : te80.ok Try.prog := ⟨⟨_, _, _, Try.underlying80⟩, _, _, rfl, rfl, rfl, rfl, rfl, rfl⟩
/-- func([]int, int, int, int) (int, bool) -/
def te81 : TE := ⟨81, .func, 1, 8, [.nilFunc], true⟩
theorem te81_ok : te81.ok Try.prog := ⟨⟨_, _, _, Try.underlying81⟩, _, _, rfl, rfl, rfl, rfl, rfl, rfl⟩
/-- func(uint32) int -/
def te82 : TE := ⟨82, .func, 1, 8, [.nilFunc], true⟩
theorem te82_ok : te82.ok Try.prog := ⟨⟨_, _, _, Try.underlying82⟩, _, _, rfl, rfl, rfl, rfl, rfl, rfl⟩
/-- uint32 -/
def te83 : TE := ⟨83, (.int .u32), 1, 4, [.int .u32 0], true⟩
theorem te83_ok : te83.ok Try.prog := ⟨Try.underlying83, _, _, rfl, rfl, rfl, rfl, rfl, rfl⟩
/-- func(uint64) int -/
def te84 : TE := ⟨84, .func, 1, 8, [.nilFunc], true⟩
theorem te84_ok : te84.ok Try.prog := ⟨⟨_, _, _, Try.underlying84⟩, _, _, rfl, rfl, rfl, rfl, rfl, rfl⟩
/-- uint64 -/
def te85 : TE := ⟨85, (.int .u64), 1, 8, [.int .u64 0], true⟩
theorem te85_ok : te85.ok Try.prog := ⟨Try.underlying85, _, _, rfl, rfl, rfl, rfl, rfl, rfl⟩
/-- func(api.Site, int) int -/
def te86 : TE := ⟨86, .func, 1, 8, [.nilFunc], true⟩
theorem te86_ok : te86.ok Try.prog := ⟨⟨_, _, _, Try.underlying86⟩, _, _, rfl, rfl, rfl, rfl, rfl, rfl⟩
/-- func(int, int, int) bool -/
def te87 : TE := ⟨87, .func, 1, 8, [.nilFunc], true⟩
theorem te87_ok : te87.ok Try.prog := ⟨⟨_, _, _, Try.underlying87⟩, _, _, rfl, rfl, rfl, rfl, rfl, rfl⟩
/-- slices.xorshift -/
def te88 : TE := ⟨88, (.int .u64), 1, 8, [.int .u64 0], true⟩
theorem te88_ok : te88.ok Try.prog := ⟨Try.underlying88, _, _, rfl, rfl, rfl, rfl, rfl, rfl⟩
/-- func(int) uint -/
def te89 : TE := ⟨89, .func, 1, 8, [.nilFunc], true⟩
theorem te89_ok : te89.ok Try.prog := ⟨⟨_, _, _, Try.underlying89⟩, _, _, rfl, rfl, rfl, rfl, rfl, rfl⟩
/-- func() uint64 -/
def te90 : TE := ⟨90, .func, 1, 8, [.nilFunc], true⟩
theorem te90_ok : te90.ok Try.prog := ⟨⟨_, _, _, Try.underlying90⟩, _, _, rfl, rfl, rfl, rfl, rfl, rfl⟩
/-- func([]int, int, *int) int -/
def te91 : TE := ⟨91, .func, 1, 8, [.nilFunc], true⟩
theorem te91_ok : te91.ok Try.prog := ⟨⟨_, _, _, Try.underlying91⟩, _, _, rfl, rfl, rfl, rfl, rfl, rfl⟩
/-- *int -/
def te92 : TE := ⟨92, (.pointer 3), 1, 8, [.pointer none], true⟩
theorem te92_ok : te92.ok Try.prog := ⟨Try.underlying92, _, _, rfl, rfl, rfl, rfl, rfl, rfl⟩
/-- func([]int, int, int, int, *int) int -/
def te93 : TE := ⟨93, .func, 1, 8, [.nilFunc], true⟩
theorem te93_ok : te93.ok Try.prog := ⟨⟨_, _, _, Try.underlying93⟩, _, _, rfl, rfl, rfl, rfl, rfl, rfl⟩
/-- func(func(int, [2]int) bool) -/
def te94 : TE := ⟨94, .func, 1, 8, [.nilFunc], true⟩
theorem te94_ok : te94.ok Try.prog := ⟨⟨_, _, _, Try.underlying94⟩, _, _, rfl, rfl, rfl, rfl, rfl, rfl⟩
/-- func(api.Site) func(func(int, [2]int) bool) -/
def te95 : TE := ⟨95, .func, 1, 8, [.nilFunc], true⟩
theorem te95_ok : te95.ok Try.prog := ⟨⟨_, _, _, Try.underlying95⟩, _, _, rfl, rfl, rfl, rfl, rfl, rfl⟩
/-- [2]int -/
def te96 : TE := ⟨96, (.array 2 3), 2, 16, [.int .i64 0, .int .i64 0], true⟩
theorem te96_ok : te96.ok Try.prog := ⟨Try.underlying96, _, _, rfl, rfl, rfl, rfl, rfl, rfl⟩
/-- func(...int) int -/
def te97 : TE := ⟨97, .func, 1, 8, [.nilFunc], true⟩
theorem te97_ok : te97.ok Try.prog := ⟨⟨_, _, _, Try.underlying97⟩, _, _, rfl, rfl, rfl, rfl, rfl, rfl⟩
/-- *slices.xorshift -/
def te98 : TE := ⟨98, (.pointer 88), 1, 8, [.pointer none], true⟩
theorem te98_ok : te98.ok Try.prog := ⟨Try.underlying98, _, _, rfl, rfl, rfl, rfl, rfl, rfl⟩
/-- func([]int, int, int, *int) (int, int) -/
def te100 : TE := ⟨100, .func, 1, 8, [.nilFunc], true⟩
theorem te100_ok : te100.ok Try.prog := ⟨⟨_, _, _, Try.underlying100⟩, _, _, rfl, rfl, rfl, rfl, rfl, rfl⟩
/-- func(int, [2]int) bool -/
def te101 : TE := ⟨101, .func, 1, 8, [.nilFunc], true⟩
theorem te101_ok : te101.ok Try.prog := ⟨⟨_, _, _, Try.underlying101⟩, _, _, rfl, rfl, rfl, rfl, rfl, rfl⟩
/-- func(uint64, uint64) (uint64, uint64) -/
def te103 : TE := ⟨103, .func, 1, 8, [.nilFunc], true⟩
theorem te103_ok : te103.ok Try.prog := ⟨⟨_, _, _, Try.underlying103⟩, _, _, rfl, rfl, rfl, rfl, rfl, rfl⟩
/-- func(int) uint64 -/
def te104 : TE := ⟨104, .func, 1, 8, [.nilFunc], true⟩
theorem te104_ok : te104.ok Try.prog := ⟨⟨_, _, _, Try.underlying104⟩, _, _, rfl, rfl, rfl, rfl, rfl, rfl⟩
/-- func() string -/
def te105 : TE := ⟨105, .func, 1, 8, [.nilFunc], true⟩
theorem te105_ok : te105.ok Try.prog := ⟨⟨_, _, _, Try.underlying105⟩, _, _, rfl, rfl, rfl, rfl, rfl, rfl⟩
/-- func() int -/
def te111 : TE := ⟨111, .func, 1, 8, [.nilFunc], true⟩
theorem te111_ok : te111.ok Try.prog := ⟨⟨_, _, _, Try.underlying111⟩, _, _, rfl, rfl, rfl, rfl, rfl, rfl⟩
/-- func(unsafe.Pointer, unsafe.Pointer) bool -/
def te114 : TE := ⟨114, .func, 1, 8, [.nilFunc], true⟩
theorem te114_ok : te114.ok Try.prog := ⟨⟨_, _, _, Try.underlying114⟩, _, _, rfl, rfl, rfl, rfl, rfl, rfl⟩
/-- *uint8 -/
def te115 : TE := ⟨115, (.pointer 5), 1, 8, [.pointer none], true⟩
theorem te115_ok : te115.ok Try.prog := ⟨Try.underlying115, _, _, rfl, rfl, rfl, rfl, rfl, rfl⟩
def tt : List TE := [te1, te2, te3, te4, te5, te9, te12, te21, te22, te23, te24, te25, te26, te27, te28, te29, te30, te31, te32, te33, te34, te35, te36, te37, te38, te39, te40, te41, te42, te43, te44, te45, te46, te47, te48, te49, te50, te51, te53, te55, te56, te57, te58, te59, te60, te61, te62, te63, te64, te65, te66, te67, te68, te69, te70, te71, te72, te73, te74, te75, te77, te78, te79, te80, te81, te82, te83, te84, te85, te86, te87, te88, te89, te90, te91, te92, te93, te94, te95, te96, te97, te98, te100, te101, te103, te104, te105, te111, te114, te115]
theorem tt_ok : TTok Try.prog tt := by
  intro e he
  simp only [tt, List.mem_cons, List.not_mem_nil, or_false] at he
  rcases he with rfl | rfl | rfl | rfl | rfl | rfl | rfl | rfl | rfl | rfl | rfl | rfl | rfl | rfl | rfl | rfl | rfl | rfl | rfl | rfl | rfl | rfl | rfl | rfl | rfl | rfl | rfl | rfl | rfl | rfl | rfl | rfl | rfl | rfl | rfl | rfl | rfl | rfl | rfl | rfl | rfl | rfl | rfl | rfl | rfl | rfl | rfl | rfl | rfl | rfl | rfl | rfl | rfl | rfl | rfl | rfl | rfl | rfl | rfl | rfl | rfl | rfl | rfl | rfl | rfl | rfl | rfl | rfl | rfl | rfl | rfl | rfl | rfl | rfl | rfl | rfl | rfl | rfl | rfl | rfl | rfl | rfl | rfl | rfl | rfl | rfl | rfl | rfl | rfl | rfl
  · exact te1_ok
  · exact te2_ok
  · exact te3_ok
  · exact te4_ok
  · exact te5_ok
  · exact te9_ok
  · exact te12_ok
  · exact te21_ok
  · exact te22_ok
  · exact te23_ok
  · exact te24_ok
  · exact te25_ok
  · exact te26_ok
  · exact te27_ok
  · exact te28_ok
  · exact te29_ok
  · exact te30_ok
  · exact te31_ok
  · exact te32_ok
  · exact te33_ok
  · exact te34_ok
  · exact te35_ok
  · exact te36_ok
  · exact te37_ok
  · exact te38_ok
  · exact te39_ok
  · exact te40_ok
  · exact te41_ok
  · exact te42_ok
  · exact te43_ok
  · exact te44_ok
  · exact te45_ok
  · exact te46_ok
  · exact te47_ok
  · exact te48_ok
  · exact te49_ok
  · exact te50_ok
  · exact te51_ok
  · exact te53_ok
  · exact te55_ok
  · exact te56_ok
  · exact te57_ok
  · exact te58_ok
  · exact te59_ok
  · exact te60_ok
  · exact te61_ok
  · exact te62_ok
  · exact te63_ok
  · exact te64_ok
  · exact te65_ok
  · exact te66_ok
  · exact te67_ok
  · exact te68_ok
  · exact te69_ok
  · exact te70_ok
  · exact te71_ok
  · exact te72_ok
  · exact te73_ok
  · exact te74_ok
  · exact te75_ok
  · exact te77_ok
  · exact te78_ok
  · exact te79_ok
  · exact te80_ok
  · exact te81_ok
  · exact te82_ok
  · exact te83_ok
  · exact te84_ok
  · exact te85_ok
  · exact te86_ok
  · exact te87_ok
  · exact te88_ok
  · exact te89_ok
  · exact te90_ok
  · exact te91_ok
  · exact te92_ok
  · exact te93_ok
  · exact te94_ok
  · exact te95_ok
  · exact te96_ok
  · exact te97_ok
  · exact te98_ok
  · exact te100_ok
  · exact te101_ok
  · exact te103_ok
  · exact te104_ok
  · exact te105_ok
  · exact te111_ok
  · exact te114_ok
  · exact te115_ok
theorem mixed : Try.prog.follows .mixedOrders = true := by kernel_rfl
end Go.Proofs.Ythdeehkmlaejfaa.E
