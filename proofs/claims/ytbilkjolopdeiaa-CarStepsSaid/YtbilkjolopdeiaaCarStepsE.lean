/- The law CarSteps, by the engine. -/
import Derived.Test.YtbilkjolopdeiaaCarLawsE
namespace Go.Proofs.Ytbilkjolopdeiaa.E
open Go NumMath
set_option linter.unusedSimpArgs false
set_option linter.unusedVariables false
set_option maxRecDepth 100000
set_option maxHeartbeats 8000000
theorem CarSteps (us : List AV) (h : areArgs tt [23, 29, 40] us) : runF XCL Try.f6 us [] (boo true) [] := by
  obtain ⟨_, _, rfl, hs, _, _, rfl, ha, _, _, rfl, hb, rfl⟩ := h
  obtain ⟨s, rfl⟩ := site_arg hs
  obtain ⟨c0, rfl⟩ := car_arg ha
  obtain ⟨l, rfl, hlen⟩ := tks_arg hb
  clear hs ha hb
  have e0 : (!(c0.right s == c0.right s)) = false := by simp
  unfold runF
  (conv => arg 1; whnf); (repeat' (first | (refine brt (by assumption) ?_; (conv => arg 1; whnf)) | (refine brf (by assumption) ?_; (conv => arg 1; whnf)) | fail))
  refine br (fun h => ?_) (fun h => ?_)
  · (conv => arg 1; whnf); (repeat' (first | (refine brt (by assumption) ?_; (conv => arg 1; whnf)) | (refine brf (by assumption) ?_; (conv => arg 1; whnf)) | fail))
    exact finB rfl
  · (conv => arg 1; whnf); (repeat' (first | (refine brt (by assumption) ?_; (conv => arg 1; whnf)) | (refine brf (by assumption) ?_; (conv => arg 1; whnf)) | fail))
    refine br (fun h => ?_) (fun h => ?_)
    · (conv => arg 1; whnf); (repeat' (first | (refine brt (by assumption) ?_; (conv => arg 1; whnf)) | (refine brf (by assumption) ?_; (conv => arg 1; whnf)) | fail))
      exact finB rfl
    · have hr0 : c0.right s = true := by
        have h' : (!c0.right s) = false := h
        simpa using h'
      (conv => arg 1; whnf); (repeat' (first | (refine brt (by assumption) ?_; (conv => arg 1; whnf)) | (refine brf (by assumption) ?_; (conv => arg 1; whnf)) | fail))
      refine loopIn (fun x : Nat × Car => x.1 ≤ l.length ∧ x.2.right s = true) (fun x => frm 82 [(3, .p 0 0), (4, .p 1 0), (27, row eTk l), (28, i64 l.length), (29, i64 x.1)]) (fun x => [siteB s, carB x.2]) (fun x => l.length - x.1) (0, c0) [0, 1] ⟨Nat.zero_le _, hr0⟩ (by decide) ?_ ?_ rfl fun x hi => ?_
      · repeat' (first | exact True.intro | exact Fit.dead _ | exact Fit.v _ | exact row_self eTk l | exact .p rfl | refine And.intro ?_ ?_)
      · exact ⟨⟨_, rfl, fitSite rfl⟩, ⟨_, rfl, fitCar rfl⟩, trivial⟩
      · obtain ⟨k, c⟩ := x
        obtain ⟨hk, hr⟩ := hi
        simp only at hk hr
        (conv => arg 1; whnf)
        refine br (fun h => ?_) (fun h => ?_)
        · have hk := of_decide_eq_true h
          simp only at hk
          have e1 : (decide (0 ≤ (k : Int)) && decide ((k : Int) < (l.length : Int))) = true := by simp only [Bool.and_eq_true, decide_eq_true_eq]; omega
          (conv => arg 1; whnf); (repeat' (first | (refine brt (by assumption) ?_; (conv => arg 1; whnf)) | (refine brf (by assumption) ?_; (conv => arg 1; whnf)) | fail))
          have hr' : Car.right s ⟨c.fl, c.ta, c.ti, c.d, (l.getD k eTk.dflt).fa⟩ = true := hr
          have f1 := Car.step_cond hr'
          have f2 := Car.step_right hr' ⟨(l.getD k eTk.dflt).o.op, (l.getD k eTk.dflt).o.go⟩ (l.getD k eTk.dflt).bl
          have f3 := Car.step_safe hr' ⟨(l.getD k eTk.dflt).o.op, (l.getD k eTk.dflt).o.go⟩ (l.getD k eTk.dflt).bl
          generalize hy : Car.step s ⟨c.fl, c.ta, c.ti, c.d, (l.getD k eTk.dflt).fa⟩ ⟨(l.getD k eTk.dflt).o.op, (l.getD k eTk.dflt).o.go⟩ (l.getD k eTk.dflt).bl = y at f2 f3
          have f4 : (!y.right s) = false := by rw [f2]; rfl
          have f5 : (!Car.safe s ⟨c.fl, c.ta, c.ti, c.d, (l.getD k eTk.dflt).fa⟩ y) = false := by rw [f3]; rfl
          subst hy
          (conv => arg 1; whnf); (repeat' (first | (refine brt (by assumption) ?_; (conv => arg 1; whnf)) | (refine brf (by assumption) ?_; (conv => arg 1; whnf)) | fail))
          (refine brf ?_ ?_; (focus (simp; done)); (conv => arg 1; whnf))
          (conv => arg 1; whnf); (repeat' (first | (refine brt (by assumption) ?_; (conv => arg 1; whnf)) | (refine brf (by assumption) ?_; (conv => arg 1; whnf)) | fail))
          have hw : IntKind.i64.wrap ((k : Int) + 1) = ((k + 1 : Nat) : Int) := by rw [i64w _ (by omega) (by omega)]; omega
          repeat' (first | (refine brt (by assumption) ?_; (conv => arg 1; whnf)) | (refine brf (by assumption) ?_; (conv => arg 1; whnf)) | (refine br (fun h => ?_) (fun h => ?_) <;> ((conv => arg 1; whnf))))
          all_goals first
            | (refine again (k + 1, Car.step s ⟨c.fl, c.ta, c.ti, c.d, (l.getD k eTk.dflt).fa⟩ ⟨(l.getD k eTk.dflt).o.op, (l.getD k eTk.dflt).o.go⟩ (l.getD k eTk.dflt).bl) [0, 1] ⟨by show k + 1 ≤ l.length; omega, f2⟩ (by show l.length - (k + 1) < l.length - k; omega) (by decide) ?_ ⟨⟨_, rfl, fitSite rfl⟩, ⟨_, rfl, fitCar rfl⟩, trivial⟩ rfl
               repeat' (first | exact True.intro | exact Fit.dead _ | exact Fit.v _ | exact .i fun _ _ => rfl | exact Fit.ip | exact .p rfl | exact .q rfl | exact .s rfl | exact .y rfl | refine Fit.al ?_ | refine Fit.fl ?_ ?_ | refine And.intro ?_ ?_)
               exact Fit.v' (congrArg (Value.int .i64) hw.symm))
            | (exfalso; simp_all [Car.idle]; done)
        · (conv => arg 1; whnf)
          refine leave ?_
          show tr _
          (conv => arg 1; whnf); (repeat' (first | (refine brt (by assumption) ?_; (conv => arg 1; whnf)) | (refine brf (by assumption) ?_; (conv => arg 1; whnf)) | fail))
          exact finB rfl
end Go.Proofs.Ytbilkjolopdeiaa.E
