/- slices.Equal; the functions of package bound as runs; the example of layer 11. -/
import Derived.Test.YtglpeibbkkikgaaRouteLawE
import Derived.Test.YtglpeibbkkikgaaUnrollE
namespace Go.Proofs.Ytglpeibbkkikgaa.E
open Go NumMath
set_option linter.unusedSimpArgs false
set_option linter.unusedVariables false
set_option maxRecDepth 100000
set_option maxHeartbeats 8000000
def eqlG : List AV → Option (Bool × AV) := ad2 (adR eI) (adR eI) fun a b => giv (decide (a.length ≤ 1000000)) (boo (decide (a = b)))
theorem eql_ok : CtrOk Try.prog 50 (borCtr eqlG) :=
  borCtr_can XN0_ok Try.func50 (by decide) rfl fun args u h => by
    obtain ⟨a, b, hf, ha, hb, hv⟩ := ad2_some h
    obtain ⟨hal, rfl⟩ := giv_some hv
    have hal := of_decide_eq_true hal
    refine ⟨_, hf, ?_⟩
    clear h hv hf
    unfold runF
    (conv => arg 1; whnf)
    refine br (fun h => ?_) (fun h => ?_)
    · (conv => arg 1; whnf)
      refine finB (decide_eq_false fun e => ?_)
      rw [e] at h
      simp at h
    · have hl : a.length = b.length := by
        have h' : (!decide ((a.length : Int) = (b.length : Int))) = false := h
        simp at h'
        omega
      (conv => arg 1; whnf)
      refine loopM [0, 1, 12] (fun k : Nat => k ≤ a.length ∧ ∀ j, j < k → a.getD j 0 = b.getD j 0) (fun k => [(13, i64 k)]) (fun _ => []) (fun k => a.length - k) 0 ⟨Nat.zero_le _, fun j hj => absurd hj (Nat.not_lt_zero j)⟩ rfl ?_ ?_ fun k hi => ?_
      · repeat' (first | exact True.intro | exact Fit.dead _ | exact Fit.v _ | exact .i fun _ _ => rfl | exact Fit.ip | exact .p rfl | exact .q rfl | exact .s rfl | exact .y rfl | exact Fit.z | exact ⟨_, rfl, .gone _⟩ | exact ⟨_, rfl, .lrec _⟩ | exact ⟨_, rfl, .held⟩ | exact ⟨_, rfl, .tab fun _ _ => rfl⟩ | refine Fit.al ?_ | refine Fit.fl ?_ ?_ | refine ⟨_, rfl, .lit ?_⟩ | refine And.intro ?_ ?_)
      · repeat' (first | exact True.intro | exact Fit.dead _ | exact Fit.v _ | exact .i fun _ _ => rfl | exact Fit.ip | exact .p rfl | exact .q rfl | exact .s rfl | exact .y rfl | exact Fit.z | exact ⟨_, rfl, .gone _⟩ | exact ⟨_, rfl, .lrec _⟩ | exact ⟨_, rfl, .held⟩ | exact ⟨_, rfl, .tab fun _ _ => rfl⟩ | refine Fit.al ?_ | refine Fit.fl ?_ ?_ | refine ⟨_, rfl, .lit ?_⟩ | refine And.intro ?_ ?_)
      · obtain ⟨hk, hall⟩ := hi
        (conv => arg 1; whnf)
        refine br (fun h1 => ?_) (fun h1 => ?_)
        · have hlt : k < a.length := by have := of_decide_eq_true h1; omega
          have e1 : (decide (0 ≤ (k : Int)) && decide ((k : Int) < (a.length : Int))) = true := by simp only [Bool.and_eq_true, decide_eq_true_eq]; omega
          have e2 : (decide (0 ≤ (k : Int)) && decide ((k : Int) < (b.length : Int))) = true := by simp only [Bool.and_eq_true, decide_eq_true_eq]; omega
          have ek : (k : Int).toNat = k := by omega
          (conv => arg 1; whnf); (repeat' (first | (refine brt (by assumption) ?_; (conv => arg 1; whnf)) | (refine brf (by assumption) ?_; (conv => arg 1; whnf)) | fail))
          refine br (fun h2 => ?_) (fun h2 => ?_)
          · have h2 : (!(decide (a.getD (k : Int).toNat 0 = b.getD (k : Int).toNat 0))) = true := h2
            (conv => arg 1; whnf); (repeat' (first | (refine brt (by assumption) ?_; (conv => arg 1; whnf)) | (refine brf (by assumption) ?_; (conv => arg 1; whnf)) | fail))
            refine leaveRet ?_
            show tr _
            (conv => arg 1; whnf); (repeat' (first | (refine brt (by assumption) ?_; (conv => arg 1; whnf)) | (refine brf (by assumption) ?_; (conv => arg 1; whnf)) | fail))
            refine finB (decide_eq_false fun e => ?_)
            rw [e] at h2
            simp at h2
          · have h2 : (!(decide (a.getD (k : Int).toNat 0 = b.getD (k : Int).toNat 0))) = false := h2
            (conv => arg 1; whnf); (repeat' (first | (refine brt (by assumption) ?_; (conv => arg 1; whnf)) | (refine brf (by assumption) ?_; (conv => arg 1; whnf)) | fail))
            rw [ek] at h2
            refine again (k + 1) [] ⟨hlt, fun j hj => ?_⟩ (by show a.length - (k + 1) < a.length - k; omega) List.nodup_nil ?_ True.intro rfl
            · rcases Nat.lt_or_ge j k with hj' | hj'
              · exact hall j hj'
              · have : j = k := by omega
                rw [this]; simpa using h2
            · repeat' (first | exact True.intro | exact Fit.dead _ | exact Fit.v _ | exact row_self eI _ | exact Fit.v' (congrArg (Value.int .i64) (nxt k (by omega)).symm) | refine And.intro ?_ ?_)
        · have hkl : k = a.length := by have := of_decide_eq_false h1; omega
          (conv => arg 1; whnf); (repeat' (first | (refine brt (by assumption) ?_; (conv => arg 1; whnf)) | (refine brf (by assumption) ?_; (conv => arg 1; whnf)) | fail))
          refine leave ?_
          show tr _
          (conv => arg 1; whnf); (repeat' (first | (refine brt (by assumption) ?_; (conv => arg 1; whnf)) | (refine brf (by assumption) ?_; (conv => arg 1; whnf)) | fail))
          exact finB (decide_eq_true (getD_extI hl fun j hj => hall j (by omega)))

/-! ### Contexts -/
noncomputable def mayR : Run := runFn XN0 Try.f61 (bodyOf Try.f61)
theorem mayR_ok : RunOk Try.prog 61 mayR := runFn_ok XN0_ok Try.func61 (by decide) rfl
/-- begin's. -/
noncomputable def XB0 : Cx := ((((XN0.add 14 (.foot reads2) (freshCtr srightG)).add 25 .pure (pureCtr beginG)).add 26 .pure (pureCtr nextG)).add 48 .pure (pureCtr addG)).addRun 61 mayR
theorem XB0_ok : CxOk Try.prog XB0 := ((((XN0_ok.fresh sright_ok).pure begin_ok).pure next_ok).pure add_ok).addRun mayR_ok
/-- times$1's. -/
noncomputable def XB1 : Cx := (XN0.add 26 .pure (pureCtr nextG)).addRun 61 mayR
theorem XB1_ok : CxOk Try.prog XB1 := (XN0_ok.pure next_ok).addRun mayR_ok
noncomputable def beginR : Run := runFn XB0 Try.f51 (bodyOf Try.f51)
theorem beginR_ok : RunOk Try.prog 51 beginR := runFn_ok XB0_ok Try.func51 (by decide) rfl
noncomputable def timesR : Run := runFn XN0 Try.f52 (bodyOf Try.f52)
theorem timesR_ok : RunOk Try.prog 52 timesR := runFn_ok XN0_ok Try.func52 (by decide) rfl
noncomputable def timesL : Run := runFn XB1 Try.f62 (bodyOf Try.f62)
theorem timesL_ok : RunOk Try.prog 62 timesL := runFn_ok XB1_ok Try.func62 (by decide) rfl
/-- Least's. -/
noncomputable def XB2 : Cx := (((XN0.add 48 .pure (pureCtr addG)).addRun 51 beginR).addRun 52 timesR).addRun 62 timesL
theorem XB2_ok : CxOk Try.prog XB2 := (((XN0_ok.pure add_ok).addRun beginR_ok).addRun timesR_ok).addRun timesL_ok
noncomputable def leastR : Run := runFn XB2 Try.f31 (bodyOf Try.f31)
theorem leastR_ok : RunOk Try.prog 31 leastR := runFn_ok XB2_ok Try.func31 (by decide) rfl
/-- Begins's. -/
def XB3 : Cx := XN0.add 50 (.reads readsL) (borCtr eqlG)
theorem XB3_ok : CxOk Try.prog XB3 := XN0_ok.bor eql_ok
noncomputable def beginsR : Run := runFn XB3 Try.f29 (bodyOf Try.f29)
theorem beginsR_ok : RunOk Try.prog 29 beginsR := runFn_ok XB3_ok Try.func29 (by decide) rfl
noncomputable def XBS : Cx := (XN0.addRun 31 leastR).addRun 29 beginsR
theorem XBS_ok : CxOk Try.prog XBS := (XN0_ok.addRun leastR_ok).addRun beginsR_ok
end Go.Proofs.Ytglpeibbkkikgaa.E
