/- The example of layer 14, gone through. -/
import Derived.Test.YtejpheapjklpgaaUnrollE
import Derived.Test.YtejpheapjklpgaaSitesE
namespace Go.Proofs.Ytejpheapjklpgaa.E
open Go NumMath
set_option linter.unusedSimpArgs false
set_option linter.unusedVariables false
set_option maxRecDepth 100000
set_option maxHeartbeats 8000000
noncomputable def XI1 : Cx := XN0.addRun 30 (runFn XN0 Try.f30 (bodyOf Try.f30))
theorem XI1_ok : CxOk Try.prog XI1 := XN0_ok.addRun (runFn_ok XN0_ok Try.func30 (by decide) rfl)
noncomputable def XI2 : Cx := XN0.addRun 25 (runFn XI1 Try.f25 (bodyOf Try.f25))
theorem XI2_ok : CxOk Try.prog XI2 := XN0_ok.addRun (runFn_ok XI1_ok Try.func25 (by decide) rfl)
noncomputable def XRu : Cx := ((((XN0.add 9 (.foot reads2) (freshCtr srightG)).add 11 .pure (pureCtr travelG)).addRun 10 (runFn XN0 Try.f10 (bodyOf Try.f10))).addRun 22 (runFn XN0 Try.f22 (bodyOf Try.f22))).addRun 13 (runFn XI2 Try.f13 (bodyOf Try.f13))
theorem XRu_ok : CxOk Try.prog XRu := ((((XN0_ok.fresh sright_ok).pure travel_ok).addRun (runFn_ok XN0_ok Try.func10 (by decide) rfl)).addRun (runFn_ok XN0_ok Try.func22 (by decide) rfl)).addRun (runFn_ok XI2_ok Try.func13 (by decide) rfl)
noncomputable def XSR : Cx := XN0.addRun 8 (runFn XRu Try.f8 (bodyOf Try.f8))
theorem XSR_ok : CxOk Try.prog XSR := XN0_ok.addRun (runFn_ok XRu_ok Try.func8 (by decide) rfl)
theorem nilUn {a : Option Prop} {b : Prop} {n : Nat} (hn : ¬ n = 0) (h1 : tr a) : tr (some (tr a ∧ (n = 0 → b))) := ⟨h1, fun h => absurd h hn⟩
theorem speaks14_ok : CtrOk Try.prog 4 (pureCtr (fn0 (giv true (boo true)))) :=
  pureCtr_ok XSR_ok Try.func4 (by decide) rfl fun args u hh => by
    obtain ⟨rfl, hv⟩ := fn0_some hh
    obtain ⟨_, rfl⟩ := giv_some hv
    clear hh hv
    refine ⟨rfl, rfl, ?_⟩
    unfold runF
    (conv => arg 1; whnf)
    repeat (first | (refine loopUn 2 ?_; (conv => arg 1; whnf)) | (refine nextUn ?_; (conv => arg 1; whnf)) | (refine leave ?_; show tr _; (conv => arg 1; whnf)) | (refine leaveRet ?_; show tr _; (conv => arg 1; whnf)) | (refine nilUn (by decide) ?_; (conv => arg 1; whnf)))
    refine finB ?_
    with_unfolding_all rfl
end Go.Proofs.Ytejpheapjklpgaa.E
