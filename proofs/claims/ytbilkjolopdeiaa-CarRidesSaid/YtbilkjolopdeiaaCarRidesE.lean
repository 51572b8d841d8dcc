/- The law CarRides, by the engine. -/
import Derived.Test.YtbilkjolopdeiaaCarLawsE
namespace Go.Proofs.Ytbilkjolopdeiaa.E
open Go NumMath
set_option linter.unusedSimpArgs false
set_option linter.unusedVariables false
set_option maxRecDepth 100000
set_option maxHeartbeats 4000000
/-- A car on its way. -/
abbrev rideC (a b : Int) (n : Int) : Car := ⟨if n = 0 then b else a, b, n, ⟨0, 0, 0, false⟩, false⟩
theorem CarRides (us : List AV) (h : areArgs tt [23, 3, 3] us) : runF XCL Try.f5 us [] (boo true) [] := by
  obtain ⟨_, _, rfl, hs, _, _, rfl, ha, _, _, rfl, hb, rfl⟩ := h
  obtain ⟨s, rfl⟩ := site_arg hs
  obtain ⟨a, rfl, ha1, ha2⟩ := int_arg ha
  obtain ⟨b, rfl, hb1, hb2⟩ := int_arg hb
  clear hs ha hb
  unfold runF
  (conv => arg 1; whnf); (repeat' (first | (refine brt (by assumption) ?_; (conv => arg 1; whnf)) | (refine brf (by assumption) ?_; (conv => arg 1; whnf)) | fail))
  by_cases hg : s.right = true ∧ 0 ≤ a ∧ a < s.fl ∧ 0 ≤ b ∧ b < s.fl ∧ a ≠ b ∧ s.sp ≤ 30
  · obtain ⟨hr, h1, h2, h3, h4, h5, h6⟩ := hg
    have hr' : Site.right ⟨s.fl, s.ca, s.st, s.sp, s.so, s.op, s.wa, s.cl, s.nu, s.ag, s.si, s.bu, s.pe⟩ = true := hr
    have g0 : (!s.right) = false := by rw [hr]; rfl
    have g1 : decide (a < 0) = false := decide_eq_false (by omega)
    have g2 : decide (s.fl ≤ a) = false := decide_eq_false (by omega)
    have g3 : decide (b < 0) = false := decide_eq_false (by omega)
    have g4 : decide (s.fl ≤ b) = false := decide_eq_false (by omega)
    have g5 : decide (a = b) = false := decide_eq_false h5
    have g6 : decide (30 < s.sp) = false := decide_eq_false (by omega)
    have g7 : (s.right && (smallN 0 && smallN 0 && smallN 0) && smallN 0) = true := by rw [hr]; rfl
    have tb := Site.travel_bd hr a b
    have tp : 0 < s.travel a b := by
      have hb := Site.right_bd hr
      unfold Site.travel
      rw [if_neg (by omega)]
      unfold Site.ride
      have : 1 ≤ s.sp * (if a < b then b - a else a - b) := Int.mul_pos (by omega) (by split <;> omega)
      omega
    have e0 : Car.step s ⟨a, a, 0, ⟨0, 0, 0, false⟩, false⟩ ⟨false, b⟩ true = rideC a b (s.travel a b) := by
      unfold Car.step Site.has
      simp [h3, h4, Ne.symm h5]
      omega
    have stp : ∀ k : Int, 0 < k → Car.step s (rideC a b k) ⟨true, a⟩ true = rideC a b (k - 1) := fun k hk => by
      unfold Car.step
      have hk0 : ¬ k = 0 := by omega
      by_cases hk1 : k - 1 = 0
      · simp [hk0, hk1]
      · simp [hk0, hk1]
    (conv => arg 1; whnf); (repeat' (first | (refine brt (by assumption) ?_; (conv => arg 1; whnf)) | (refine brf (by assumption) ?_; (conv => arg 1; whnf)) | fail))
    refine loopIn (fun k : Nat => (k : Int) ≤ s.travel a b) (fun k => frm 75 [(1, i64 a), (2, i64 b), (3, .p 0 0), (7, .p 1 0), (9, i64 k)]) (fun k => [siteB s, carB (rideC a b k)]) (fun k => k) (s.travel a b).toNat [0, 1] (by show (((s.travel a b).toNat : Nat) : Int) ≤ _; omega) (by decide) ?_ ?_ rfl fun k hk => ?_
    · repeat' (first | exact True.intro | exact Fit.dead _ | exact Fit.v _ | exact .i fun _ _ => rfl | exact Fit.ip | exact .p rfl | exact .q rfl | exact .s rfl | exact .y rfl | refine Fit.al ?_ | refine Fit.fl ?_ ?_ | refine And.intro ?_ ?_)
      exact Fit.v' (congrArg (Value.int .i64) (show (((s.travel a b).toNat : Nat) : Int) = s.travel a b by omega))
    · refine ⟨⟨_, rfl, fitSite rfl⟩, ⟨_, rfl, fitCar (c := rideC a b ((s.travel a b).toNat : Nat)) (c' := Car.step s ⟨a, a, 0, ⟨0, 0, 0, false⟩, false⟩ ⟨false, b⟩ true) (by rw [e0]; congr 1 <;> omega)⟩, trivial⟩
    · (conv => arg 1; whnf)
      refine br (fun h => ?_) (fun h => ?_)
      · have h0 := of_decide_eq_true h
        have g8 : (s.right && (smallN 0 && smallN 0 && smallN 0) && smallN (k : Int)) = true := by
          rw [hr]; unfold smallN; simp; omega
        have f0 : (rideC a b k).fl = a := if_neg (by omega)
        have g9 : (!(decide ((rideC a b k).fl = a) && (decide (b = b) && (decide ((k : Int) = k) && true)))) = false := by rw [f0]; simp
        have w1 : IntKind.i64.wrap ((k : Int) - 1) = ((k - 1 : Nat) : Int) := by rw [i64w _ (by omega) (by omega)]; omega
        (conv => arg 1; whnf); (repeat' (first | (refine brt (by assumption) ?_; (conv => arg 1; whnf)) | (refine brf (by assumption) ?_; (conv => arg 1; whnf)) | fail))
        refine again (k - 1) [0, 1] ?_ ?_ (by decide) ?_ ?_ ?_
        · show ((k - 1 : Nat) : Int) ≤ s.travel a b
          omega
        · show k - 1 < k
          omega
        · repeat' (first | exact True.intro | exact Fit.dead _ | exact Fit.v _ | exact .i fun _ _ => rfl | exact Fit.ip | exact .p rfl | exact .q rfl | exact .s rfl | exact .y rfl | refine Fit.al ?_ | refine Fit.fl ?_ ?_ | refine And.intro ?_ ?_)
          exact Fit.v' (congrArg (Value.int .i64) w1.symm)
        · refine ⟨⟨_, rfl, fitSite rfl⟩, ⟨_, rfl, fitCar (c := rideC a b ((k - 1 : Nat) : Int)) (c' := Car.step s (rideC a b k) ⟨true, a⟩ true) ?_⟩, trivial⟩
          rw [stp k h0, show ((k - 1 : Nat) : Int) = (k : Int) - 1 by omega]
        · rfl
      · have h0 := of_decide_eq_false h
        obtain rfl : k = 0 := by omega
        (conv => arg 1; whnf)
        refine leave ?_
        show tr _
        (conv => arg 1; whnf); (repeat' (first | (refine brt (by assumption) ?_; (conv => arg 1; whnf)) | (refine brf (by assumption) ?_; (conv => arg 1; whnf)) | fail))
        refine finB ?_
        simp
  · refine br (fun h => ?_) (fun g0 => ?_) <;> ((conv => arg 1; whnf); (repeat' (first | (refine brt (by assumption) ?_; (conv => arg 1; whnf)) | (refine brf (by assumption) ?_; (conv => arg 1; whnf)) | fail)))
    · exact finB rfl
    refine br (fun h => ?_) (fun g1 => ?_) <;> ((conv => arg 1; whnf); (repeat' (first | (refine brt (by assumption) ?_; (conv => arg 1; whnf)) | (refine brf (by assumption) ?_; (conv => arg 1; whnf)) | fail)))
    · exact finB rfl
    refine br (fun h => ?_) (fun g2 => ?_) <;> ((conv => arg 1; whnf); (repeat' (first | (refine brt (by assumption) ?_; (conv => arg 1; whnf)) | (refine brf (by assumption) ?_; (conv => arg 1; whnf)) | fail)))
    · exact finB rfl
    refine br (fun h => ?_) (fun g3 => ?_) <;> ((conv => arg 1; whnf); (repeat' (first | (refine brt (by assumption) ?_; (conv => arg 1; whnf)) | (refine brf (by assumption) ?_; (conv => arg 1; whnf)) | fail)))
    · exact finB rfl
    refine br (fun h => ?_) (fun g4 => ?_) <;> ((conv => arg 1; whnf); (repeat' (first | (refine brt (by assumption) ?_; (conv => arg 1; whnf)) | (refine brf (by assumption) ?_; (conv => arg 1; whnf)) | fail)))
    · exact finB rfl
    refine br (fun h => ?_) (fun g5 => ?_) <;> ((conv => arg 1; whnf); (repeat' (first | (refine brt (by assumption) ?_; (conv => arg 1; whnf)) | (refine brf (by assumption) ?_; (conv => arg 1; whnf)) | fail)))
    · exact finB rfl
    refine br (fun h => ?_) (fun g6 => ?_) <;> ((conv => arg 1; whnf); (repeat' (first | (refine brt (by assumption) ?_; (conv => arg 1; whnf)) | (refine brf (by assumption) ?_; (conv => arg 1; whnf)) | fail)))
    · exact finB rfl
    exfalso
    apply hg
    simp at g0 g1 g2 g3 g4 g5 g6
    exact ⟨g0, g1, g2, g3, g4, g5, g6⟩
end Go.Proofs.Ytbilkjolopdeiaa.E
