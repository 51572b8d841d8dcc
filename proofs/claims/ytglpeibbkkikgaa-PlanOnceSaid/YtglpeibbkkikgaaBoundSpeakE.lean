/- The example of layer 11, gone through. -/
import Derived.Test.YtglpeibbkkikgaaBoundE
import Derived.Test.YtglpeibbkkikgaaSpeakPlanE
namespace Go.Proofs.Ytglpeibbkkikgaa.E
open Go NumMath
set_option linter.unusedSimpArgs false
set_option linter.unusedVariables false
set_option maxRecDepth 100000
set_option maxHeartbeats 8000000
theorem mapOne {ok : Bool} {es : List MapEntry} {seen : List Nat} {e : MapEntry} {A : Option Prop} {C : MapEntry → Option Prop} (hok : ok = true) (he : leftE es seen = [e]) (h : tr (C e)) : tr (some (ok = true ∧ (leftE es seen = [] → tr A) ∧ ∀ e, e ∈ leftE es seen → tr (C e))) :=
  ⟨hok, fun h0 => (by rw [he] at h0; cases h0), fun e' h' => by rw [he] at h'; obtain rfl := List.mem_singleton.1 h'; exact h⟩
theorem mapNone {ok : Bool} {es : List MapEntry} {seen : List Nat} {A : Option Prop} {C : MapEntry → Option Prop} (hok : ok = true) (he : leftE es seen = []) (h : tr A) : tr (some (ok = true ∧ (leftE es seen = [] → tr A) ∧ ∀ e, e ∈ leftE es seen → tr (C e))) :=
  ⟨hok, fun _ => h, fun e' h' => by rw [he] at h'; cases h'⟩
theorem speaks11_ok : CtrOk Try.prog 28 (pureCtr (fn0 (giv true (boo true)))) :=
  pureCtr_ok XBS_ok Try.func28 (by decide) rfl fun args u hh => by
    obtain ⟨rfl, hv⟩ := fn0_some hh
    obtain ⟨_, rfl⟩ := giv_some hv
    clear hh hv
    refine ⟨rfl, rfl, ?_⟩
    unfold runF
    (conv => arg 1; whnf)
    repeat (first | (refine loopUn 2 ?_; (conv => arg 1; whnf)) | (refine nextUn ?_; (conv => arg 1; whnf)) | (refine leave ?_; show tr _; (conv => arg 1; whnf)) | (refine leaveRet ?_; show tr _; (conv => arg 1; whnf)) | (refine nilUn (by decide) ?_; (conv => arg 1; whnf)) | (refine mapOne (by rfl) (by rfl) ?_; (conv => arg 1; whnf)) | (refine mapNone (by rfl) (by rfl) ?_; (conv => arg 1; whnf)))
    refine finB ?_
    with_unfolding_all rfl
end Go.Proofs.Ytglpeibbkkikgaa.E
