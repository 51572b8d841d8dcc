/- The tied card of FloorsTold: its row, whose listed variable holds what the program's text lays. -/
import Derived.Test.YtaneamfnjhiigaaDoorRows
import Derived.Test.YtaneamfnjhiigaaDoorCards
import Derived.Test.YtaneamfnjhiigaaDoorTie
import Derived.Test.YtaneamfnjhiigaaDoorFloorsToldE
import Derived.Test.YtaneamfnjhiigaaDoorERow
import Derived.WalkKit
import Derived.ProofKit
import Derived.OpenShut
import Derived.ShutString
import Derived.ChangeOld
import Derived.Below
import Derived.SizedLaws
import Derived.LaidMore
import Derived.Lib.LaidTab
import Derived.Stop.Joined
import Derived.SevenTiedAt
namespace Go.Proofs.YtaneamfnjhiigaaDoor.floorsTold
open Go.ChangeShapes Go.WideShapes Go.ChangeAt Go.RowKit
set_option linter.unusedVariables false
set_option maxRecDepth 100000
theorem own : ownKnob Tryd.prog.godebug = none := by kernel_rfl
theorem laidOut : laidOutB Tryd.prog = true := by kernel_rfl
theorem gN : Tryd.prog.globalNamed "math/bits.deBruijn64tab" = some 0 := by kernel_rfl
theorem gT : (Tryd.prog.globals[0]?).map (·.type) = some 45 := by kernel_rfl
theorem gC : Tryd.prog.cellsOf 45 = 64 := by kernel_rfl
theorem gE : Tryd.prog.cellsOf 5 = 1 := by kernel_rfl
def zs : List Int := [0, 1, 56, 2, 57, 49, 28, 3, 61, 58, 42, 50, 38, 29, 17, 4, 62, 47, 59, 36, 45, 43, 51, 22, 53, 39, 33, 30, 24, 18, 12, 5, 63, 55, 48, 27, 60, 41, 37, 16, 46, 35, 44, 21, 52, 32, 23, 11, 54, 26, 40, 15, 34, 20, 31, 10, 25, 14, 19, 9, 13, 8, 7, 6]
theorem door_met (os : Os) (args : Array Value) : laidMetH Tryd.prog Rows.floorsToldRow.laid ((World.doorLaid Tryd.prog 400 os).forCall (fun _ _ => 0) ⟨#[], args, []⟩).memory := by
  rw [MakeChecks.laidMetH_plain _ _ _ (by kernel_rfl)]
  exact laidMet_of_run' 8 (by kernel_rfl) (by kernel_rfl)
theorem globs_ok {W : World} (h : laidMetH Tryd.prog Rows.floorsToldRow.laid W) : E.Globs (fun b => b < W.heap.size) W := by
  rw [MakeChecks.laidMetH_plain _ _ _ (by kernel_rfl)] at h
  have hT : Lib.TabIs Tryd.prog W "math/bits.deBruijn64tab" .u8 zs := Lib.tabIs_of_head gN gT Tryd.underlying45 Tryd.underlying5 gE gC h
  have hc : ∀ k, k < 64 → W.cell? ⟨0, k, none⟩ = some (.int .u8 (zs.getD k 0)) := fun k hk => hT.cell gN k hk
  intro p hp
  have hp : p = (0, zs.map fun n => E.AV.v (.int .u8 n)) := by simpa [E.globs, zs] using hp
  subst hp
  refine .ip (b := 0) (o := 0) (fun k => .int .u8 (zs.getD k 0)) (W.block_lt_of_cell? _ (hc 0 (by decide))) (fun k u hu => ?_) (fun k u hu => ?_)
  · have hk : k < 64 := by have := (List.getElem?_eq_some_iff.1 hu).1; simpa [zs] using this
    have := hc k hk
    rwa [Nat.zero_add]
  · rw [List.getElem?_map] at hu
    obtain ⟨z, hz, rfl⟩ := Option.map_eq_some_iff.1 hu
    rw [List.getD_eq_getElem?_getD, hz]
    exact .v _
theorem lifted (os : Os) (started : os.Started) (H : Type) (enc : TypeId × Value → H) :
    ReturnsInHanded {} Tryd.checked os 4 .any (fun w args => (Rows.floorsToldSpec.pre enc Tryd.prog Tryd.f4 [] false w args ∧ laidMetH Tryd.prog Rows.floorsToldRow.laid w) ∧ sizedMet enc Tryd.prog Tryd.f4 (OpenSpec.ofChange Rows.floorsToldSpec) false w args)
      (Rows.floorsToldSpec.post enc Tryd.prog Tryd.f4 false true false false) := by
  refine returnsInHanded_of_change_and (C := Tryd.checked) (X := fun w _ => laidMetH Tryd.prog Rows.floorsToldRow.laid w) (fun _ _ _ hh h => h.of_heap hh) own started (by kernel_rfl) Tryd.func4
    (ChangeSpec.witness_shaped (enc := enc) (C := Tryd.checked) (os := os) (X := fun w _ => laidMetH Tryd.prog Rows.floorsToldRow.laid w) false (World.doorLaid Tryd.prog 400 os) #[.slice none 0 0, .int .i64 0, .int .i64 0] 8 rfl (World.shaped_of_RefB (by kernel_rfl) (by kernel_rfl)) (by kernel_rfl) (by kernel_rfl) (by kernel_rfl) (door_met os _)) ?_
  intro W base args ds gs before hval0 hW hcnd hsz0 hL _
  have hsz : (DataW.weightsEach Tryd.prog (Tryd.f4.params.toList ++ Rows.floorsToldSpec.plain.varTypes Tryd.prog) (ds ++ gs)).all (· ≤ reachBytes) = true := hsz0
  have hval : ∀ (j : Nat) t v, Tryd.f4.params[j]? = some t → args[j]? = some v → Value.okWide Tryd.prog W .any base t v := hval0
  have hW' := hW
  obtain ⟨p, q, hA0, hV, rfl, hfz, hnd⟩ := hW
  have hA : DataW.TrodAll enc Tryd.prog W 0 (fun _ => true) true Tryd.f4.params.toList args.toList ds p := hA0
  rw [Tryd.params4] at hA hval hsz
  obtain ⟨rfl, rfl⟩ := trodVars_none hV
  obtain ⟨_, _, d0, ds0, _, _, _, rfl, _, _, r0⟩ := trodAll_cons hA
  obtain ⟨_, _, d1, ds1, _, _, _, rfl, _, _, r1⟩ := trodAll_cons r0
  obtain ⟨_, _, d2, ds2, _, _, _, rfl, _, _, r2⟩ := trodAll_cons r1
  obtain ⟨_, rfl, _⟩ := trodAll_nil r2
  have hw : ∀ x ∈ DataW.weightsEach Tryd.prog [24, 3, 3] [d0, d1, d2], x ≤ reachBytes := fun x hx => by
    have h2 := List.all_eq_true.1 hsz x (by rw [List.append_nil]; exact hx)
    simpa using h2
  obtain ⟨us, hargs, hvs⟩ := E.open_args E.tt_ok [24, 3, 3] args.toList [d0, d1, d2] p (by kernel_rfl) (fun j t v h1 h2 => hval j t v (by simpa using h1) (by simpa using h2)) hA hw
  have key := E.law_calls E.XTo_ok Tryd.func4 (by decide) rfl (E.FloorsTold us hargs) hvs.1 hvs.2 (globs_ok hL)
  rw [show args.toList.toArray = args by simp] at key
  refine key.mono fun e W' ⟨he, bel⟩ => ?_
  subst he
  exact ⟨_, rfl, _, _, _, [], _, [], hW', trodAll_mk1 (shut_bool Tryd.underlying4 _), E.shut_args laidOut bel [24, 3, 3] args.toList [d0, d1, d2] p (by kernel_rfl) hA, rfl, bel.frame _, fun h => by cases h⟩
theorem over : Rows.floorsToldRow.holds Tryd.pinned (OpenSpec.ofChange Rows.floorsToldSpec) :=
  OpenClaim.holds_of_wide 4 Tryd.f4 rfl rfl rfl rfl rfl rfl rfl ⟨rfl, rfl, rfl, rfl, rfl⟩ rfl rfl rfl rfl rfl (by kernel_rfl) Tryd.func4 (by kernel_rfl)
    (of_decide_eq_true (by kernel_rfl)) (by unfold Func.isWrapper; first | (rw [if_pos (by decide +kernel)]; kernel_rfl) | (rw [if_neg (by decide +kernel)]; exact ⟨rfl, rfl⟩))
    (fun os started H enc _ => lifted os started H enc)
theorem proved : Rows.FloorsToldSaid := over
theorem card_holds : Rows.FloorsToldCardSaid :=
  Claim7.holds_tied_plain_at .later [] [.data] true (true, "ea0103e2268d7262b897b4e5ce23d2b04cdf8fc556eb945df828a4011381bccb") false
    proved (fun _ h => by cases h) (by kernel_rfl) (fun _ h => by cases h) floorsTold_row_tie rfl ⟨rfl, rfl⟩ (by kernel_rfl) rfl
    (fun f fn hf hfn => by
      obtain rfl : f = 4 := Option.some.inj ((show Tryd.prog.funcNamed "paternoster/paternosterlaw02.FloorsTold" = some 4 by kernel_rfl).symm.trans hf) |>.symm
      obtain rfl : fn = Tryd.f4 := (Option.some.inj (Tryd.func4.symm.trans hfn)).symm
      exact ⟨by kernel_rfl, fun j t ht => by
        rw [Tryd.params4] at ht
        have hm : t ∈ [24, 3, 3] := by simpa using Array.mem_of_getElem? ht
        have hall : ([24, 3, 3].all fun u => !Tryd.prog.wantsStandIn u) = true := by kernel_rfl
        exact (show Tryd.prog.wantsStandIn t = false by simpa using List.all_eq_true.1 hall t hm)⟩)
    (by kernel_rfl)
end Go.Proofs.YtaneamfnjhiigaaDoor.floorsTold
namespace Go.Proofs.YtaneamfnjhiigaaDoor
/-- The card, under a short name, for the claim. -/
theorem floorsTold_holds : Rows.FloorsToldCardSaid := floorsTold.card_holds
#print axioms floorsTold_holds
end Go.Proofs.YtaneamfnjhiigaaDoor
