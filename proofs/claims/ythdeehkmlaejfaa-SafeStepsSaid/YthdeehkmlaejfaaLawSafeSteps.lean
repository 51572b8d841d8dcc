/- The row SafeSteps. -/
import Derived.Test.YthdeehkmlaejfaaRows
import Derived.Test.YthdeehkmlaejfaaSafeStepsE
import Derived.Test.YthdeehkmlaejfaaEngE
import Derived.WalkKit
import Derived.ProofKit
import Derived.OpenShut
import Derived.ShutString
import Derived.ChangeOld
import Derived.Below
import Derived.SizedLaws
namespace Go.Proofs.Ythdeehkmlaejfaa.safeSteps
open Go.ChangeShapes Go.WideShapes Go.ChangeAt Go.RowKit
set_option linter.unusedVariables false
theorem own : ownKnob Try.prog.godebug = none := by kernel_rfl
theorem laidOut : laidOutB Try.prog = true := by kernel_rfl
set_option maxRecDepth 100000 in
theorem lifted (os : Os) (started : os.Started) (H : Type) (enc : TypeId × Value → H) :
    ReturnsInHanded {} Try.checked os 3 .any (Rows.safeStepsSpec.pre6 enc Try.prog Try.f3 Rows.safeStepsRow.domain false) (Rows.safeStepsSpec.post enc Try.prog Try.f3 false true false false) := by
  refine returnsInHanded_of_change_sized (C := Try.checked) own started (by kernel_rfl) Try.func3
    (ChangeSpec.witness6 (enc := enc) (C := Try.checked) false ⟨#[], #[.agg #[.int .i64 0, .int .i64 0, .int .i64 0, .int .i64 0, .int .i64 0, .int .i64 0, .int .i64 0, .int .i64 0, .int .i64 0, .int .i64 0, .int .i64 0, .int .i64 0, .int .i64 0], .slice none 0 0, .slice none 0 0, .slice none 0 0, .int .i64 0], []⟩ 8 (by kernel_rfl) (by kernel_rfl) (by kernel_rfl) (by kernel_rfl)) ?_
  intro W base args ds gs before hval0 hW hcnd hsz0 _
  have hsz : (DataW.weightsEach Try.prog (Try.f3.params.toList ++ Rows.safeStepsSpec.plain.varTypes Try.prog) (ds ++ gs)).all (· ≤ reachBytes) = true := hsz0
  have hval : ∀ (j : Nat) t v, Try.f3.params[j]? = some t → args[j]? = some v → Value.okWide Try.prog W .any base t v := hval0
  have hW' := hW
  obtain ⟨p, q, hA0, hV, rfl, hfz, hnd⟩ := hW
  have hA : DataW.TrodAll enc Try.prog W 0 (fun _ => true) true Try.f3.params.toList args.toList ds p := hA0
  rw [Try.params3] at hA hval hsz
  obtain ⟨rfl, rfl⟩ := trodVars_none hV
  obtain ⟨_, _, d0, ds0, _, _, _, rfl, _, _, r0⟩ := trodAll_cons hA
  obtain ⟨_, _, d1, ds1, _, _, _, rfl, _, _, r1⟩ := trodAll_cons r0
  obtain ⟨_, _, d2, ds2, _, _, _, rfl, _, _, r2⟩ := trodAll_cons r1
  obtain ⟨_, _, d3, ds3, _, _, _, rfl, _, _, r3⟩ := trodAll_cons r2
  obtain ⟨_, _, d4, ds4, _, _, _, rfl, _, _, r4⟩ := trodAll_cons r3
  obtain ⟨_, rfl, _⟩ := trodAll_nil r4
  have hw : ∀ x ∈ DataW.weightsEach Try.prog [23, 24, 25, 26, 3] [d0, d1, d2, d3, d4], x ≤ reachBytes := fun x hx => by
    have h2 := List.all_eq_true.1 hsz x (by rw [List.append_nil]; exact hx)
    simpa using h2
  obtain ⟨us, hargs, hvs⟩ := E.open_args E.tt_ok [23, 24, 25, 26, 3] args.toList [d0, d1, d2, d3, d4] p (by kernel_rfl) (fun j t v h1 h2 => hval j t v (by simpa using h1) (by simpa using h2)) hA hw
  have key := E.law_calls E.XSS_ok Try.func3 (by decide) rfl (E.SafeSteps us hargs) hvs.1 hvs.2 (by simp [E.Globs, E.globs])
  rw [show args.toList.toArray = args by simp] at key
  refine key.mono fun e W' ⟨he, bel⟩ => ?_
  subst he
  exact ⟨_, rfl, _, _, _, [], _, [], hW', trodAll_mk1 (shut_bool Try.underlying4 _), E.shut_args laidOut bel [23, 24, 25, 26, 3] args.toList [d0, d1, d2, d3, d4] p (by kernel_rfl) hA, rfl, bel.frame _, fun h => by cases h⟩
theorem over : Rows.safeStepsRow.holds Try.pinned (OpenSpec.ofChange Rows.safeStepsSpec) :=
  OpenClaim.holds_of_wide 3 Try.f3 rfl rfl rfl rfl rfl rfl rfl ⟨rfl, rfl, rfl, rfl, rfl⟩ rfl rfl rfl rfl rfl (by kernel_rfl) Try.func3 (by kernel_rfl)
    (of_decide_eq_true (by kernel_rfl)) (by unfold Func.isWrapper; first | (rw [if_pos (by decide +kernel)]; kernel_rfl) | (rw [if_neg (by decide +kernel)]; exact ⟨rfl, rfl⟩))
    (fun os started H enc _ => lifted os started H enc)
theorem proved : Rows.SafeStepsSaid := over
end Go.Proofs.Ythdeehkmlaejfaa.safeSteps
namespace Go.Proofs.Ythdeehkmlaejfaa
/-- The row, under a short name, for the claim. -/
theorem safeSteps_holds : Rows.SafeStepsSaid := safeSteps.proved
#print axioms safeSteps_holds
end Go.Proofs.Ythdeehkmlaejfaa
