/- The example of layer 9, gone through. -/
import Derived.Test.YtglpeibbkkikgaaPlanE
import Derived.Test.YtglpeibbkkikgaaUnrollE
namespace Go.Proofs.Ytglpeibbkkikgaa.E
open Go NumMath
set_option linter.unusedSimpArgs false
set_option linter.unusedVariables false
set_option maxRecDepth 100000
set_option maxHeartbeats 8000000
noncomputable def XW : Cx := XD1.addRun 63 (runFn XN0 Try.f63 (bodyOf Try.f63))
theorem XW_ok : CxOk Try.prog XW := XD1_ok.addRun (runFn_ok XN0_ok Try.func63 (by decide) rfl)
noncomputable def XWn : Nat → Cx
  | 0 => XW
  | n + 1 => XW.addRun 54 (runFn (XWn n) Try.f54 (bodyOf Try.f54))
theorem XWn_ok : ∀ n, CxOk Try.prog (XWn n)
  | 0 => XW_ok
  | n + 1 => XW_ok.addRun (runFn_ok (XWn_ok n) Try.func54 (by decide) rfl)
noncomputable def XSP : Cx := (((XD1.add 16 (.foot reads2) (freshCtr feasG)).addRun 34 (runFn XN0 Try.f34 (bodyOf Try.f34))).addRun 35 (runFn XN0 Try.f35 (bodyOf Try.f35))).addRun 53 (runFn (XWn 3) Try.f53 (bodyOf Try.f53))
theorem XSP_ok : CxOk Try.prog XSP := (((XD1_ok.fresh feas_ok).addRun (runFn_ok XN0_ok Try.func34 (by decide) rfl)).addRun (runFn_ok XN0_ok Try.func35 (by decide) rfl)).addRun (runFn_ok (XWn_ok 3) Try.func53 (by decide) rfl)
theorem nilUn {a : Option Prop} {b : Prop} {n : Nat} (hn : ¬ n = 0) (h1 : tr a) : tr (some (tr a ∧ (n = 0 → b))) := ⟨h1, fun h => absurd h hn⟩
theorem trtr {x : Option Prop} (h : tr x) : tr (some (tr x)) := h
theorem speaks09_ok : CtrOk Try.prog 12 (pureCtr (fn0 (giv true (boo true)))) :=
  pureCtr_ok XSP_ok Try.func12 (by decide) rfl fun args u hh => by
    obtain ⟨rfl, hv⟩ := fn0_some hh
    obtain ⟨_, rfl⟩ := giv_some hv
    clear hh hv
    refine ⟨rfl, rfl, ?_⟩
    unfold runF
    (conv => arg 1; whnf)
    repeat (first | (refine loopUn 2 ?_; (conv => arg 1; whnf)) | (refine nextUn ?_; (conv => arg 1; whnf)) | (refine leave ?_; show tr _; (conv => arg 1; whnf)) | (refine leaveRet ?_; show tr _; (conv => arg 1; whnf)) | (refine nilUn (by decide) ?_; (conv => arg 1; whnf)))
    refine finB ?_
    with_unfolding_all rfl
end Go.Proofs.Ytglpeibbkkikgaa.E
