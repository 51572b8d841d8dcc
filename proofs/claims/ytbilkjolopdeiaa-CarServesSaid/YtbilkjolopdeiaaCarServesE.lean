/- The law CarServes, by the engine. -/
import Derived.Test.YtbilkjolopdeiaaCarLawsE
namespace Go.Proofs.Ytbilkjolopdeiaa.E
open Go NumMath
set_option linter.unusedSimpArgs false
set_option linter.unusedVariables false
set_option maxRecDepth 100000
set_option maxHeartbeats 8000000
/-- The car at the beginning of the tick n: it rides, then opens, waits, closes. D: the tick in which it is told to open. -/
def serveC (s : Site) (a b D n : Int) : Car :=
  if n < D then ⟨a, if n = 0 then a else b, if n = 0 then 0 else D - n, ⟨0, 0, 0, false⟩, false⟩
  else if n = D then ⟨b, b, 0, ⟨0, 0, 0, false⟩, false⟩
  else if n ≤ D + s.op then ⟨b, b, 0, ⟨1, s.op - (n - D - 1), 0, false⟩, false⟩
  else if n ≤ D + s.op + s.wa then ⟨b, b, 0, ⟨2, s.wa - (n - D - s.op - 1), 0, false⟩, false⟩
  else if n ≤ D + s.op + s.wa + s.cl then ⟨b, b, 0, ⟨3, s.cl - (n - D - s.op - s.wa - 1), 0, false⟩, false⟩
  else ⟨b, b, 0, ⟨0, 0, 0, false⟩, false⟩
/-- What is so of it, and of the next one. -/
structure Serve (s : Site) (a b D : Int) : Prop where
  r : s.right = true
  (a0 : 0 ≤ a) (a1 : a < s.fl) (b0 : 0 ≤ b) (b1 : b < s.fl)
  e : D = if a = b then 0 else s.travel a b + 1
  D0 : 0 ≤ D
  D1 : D ≤ 65001
theorem Serve.ride {s : Site} {a b D n : Int} (h : Serve s a b D) (h0 : 0 ≤ n) (hn : n < D) (o : Bool) (ho : n = 0 → o = false) : a ≠ b ∧ (serveC s a b D n).fl = a ∧ Car.step s (serveC s a b D n) ⟨o, b⟩ false = serveC s a b D (n + 1) ∧ (serveC s a b D n).d = ⟨0, 0, 0, false⟩ ∧ 0 ≤ (serveC s a b D n).ti ∧ (serveC s a b D n).ti ≤ 65001 ∧ (serveC s a b D (n + 1)).d = ⟨0, 0, 0, false⟩ := by
  have hab : a ≠ b := fun e => by have := h.e; rw [if_pos e] at this; omega
  have he := h.e
  rw [if_neg hab] at he
  have ht : 0 < s.travel a b := by
    have hb := Site.right_bd h.r
    have := h.a0; have := h.a1; have := h.b0; have := h.b1
    unfold Site.travel
    rw [if_neg (by omega)]
    unfold Site.ride
    have : 1 ≤ s.sp * (if a < b then b - a else a - b) := Int.mul_pos (by omega) (by split <;> omega)
    omega
  have hhas : s.has b = true := by unfold Site.has; simp [h.b0, h.b1]
  have hD := h.D1
  by_cases h1 : n = 0
  · subst h1
    have e1 : serveC s a b D 0 = ⟨a, a, 0, ⟨0, 0, 0, false⟩, false⟩ := by unfold serveC; rw [if_pos hn]; simp
    have e2 : serveC s a b D 1 = ⟨a, b, D - 1, ⟨0, 0, 0, false⟩, false⟩ := by unfold serveC; rw [if_pos (by omega)]; simp
    have e3 : Car.step s (serveC s a b D 0) ⟨o, b⟩ false = serveC s a b D (0 + 1) := by
      rw [e1, ho rfl]
      show _ = serveC s a b D 1
      rw [e2]
      unfold Car.step
      simp [hhas, Ne.symm hab]
      omega
    refine ⟨hab, by rw [e1], e3, by rw [e1], by rw [e1]; exact Int.le_refl _, by rw [e1]; show (0 : Int) ≤ 65001; decide, ?_⟩
    show (serveC s a b D 1).d = _
    rw [e2]
  · have e1 : serveC s a b D n = ⟨a, b, D - n, ⟨0, 0, 0, false⟩, false⟩ := by unfold serveC; rw [if_pos hn]; simp [h1]
    by_cases h2 : n + 1 = D
    · have e2 : serveC s a b D (n + 1) = ⟨b, b, 0, ⟨0, 0, 0, false⟩, false⟩ := by unfold serveC; rw [if_neg (by omega), if_pos h2]
      refine ⟨hab, by rw [e1], ?_, by rw [e1], by rw [e1]; show 0 ≤ D - n; omega, by rw [e1]; show D - n ≤ 65001; omega, by rw [e2]⟩
      rw [e1, e2]
      unfold Car.step
      have : D - n = 1 := by omega
      simp [this]
    · have e2 : serveC s a b D (n + 1) = ⟨a, b, D - (n + 1), ⟨0, 0, 0, false⟩, false⟩ := by
        unfold serveC; rw [if_pos (by omega)]
        simp [show n + 1 ≠ 0 by omega]
      refine ⟨hab, by rw [e1], ?_, by rw [e1], by rw [e1]; show 0 ≤ D - n; omega, by rw [e1]; show D - n ≤ 65001; omega, by rw [e2]⟩
      rw [e1, e2]
      unfold Car.step
      simp [show D - n ≠ 0 by omega, show D - n - 1 ≠ 0 by omega]
      omega
theorem door_on {s : Site} {p l : Int} (hp : p ≠ 0) (o : Bool) : Door.step s ⟨p, l, 0, false⟩ o false = if l - 1 > 0 then ⟨p, l - 1, 0, false⟩ else Door.enter s ⟨p, l - 1, 0, false⟩ ((p + 1).tmod 4) := by
  unfold Door.step
  rw [if_neg hp]
  rfl
theorem car_on {s : Site} {b : Int} {d : Door} (hp : d.ph ≠ 0) (o : Bool) : Car.step s ⟨b, b, 0, d, false⟩ ⟨o, b⟩ false = ⟨b, b, 0, d.step s o false, false⟩ := by
  unfold Car.step
  rw [if_neg (fun h => h rfl), if_pos (.inl hp)]
theorem serve_D (s : Site) (a b D : Int) : serveC s a b D D = ⟨b, b, 0, ⟨0, 0, 0, false⟩, false⟩ := by unfold serveC; rw [if_neg (by omega), if_pos rfl]
theorem Serve.opn {s : Site} {a b D : Int} (h : Serve s a b D) : Car.step s (serveC s a b D D) ⟨true, b⟩ false = serveC s a b D (D + 1) ∧ (serveC s a b D (D + 1)).d.ph = 1 := by
  have hb := Site.right_bd h.r
  have e2 : serveC s a b D (D + 1) = ⟨b, b, 0, ⟨1, s.op, 0, false⟩, false⟩ := by
    unfold serveC; rw [if_neg (by omega), if_neg (by omega), if_pos (by omega)]
    congr 2; omega
  rw [e2, serve_D]
  refine ⟨?_, rfl⟩
  unfold Car.step Door.step Door.enter Site.tk
  simp
/-- Behind that the door goes on by itself. -/
theorem Serve.door {s : Site} {a b D n : Int} (h : Serve s a b D) (h0 : D < n) (hn : n ≤ D + s.op + s.wa + s.cl) (o : Bool) :
    (serveC s a b D n).fl = b ∧ (serveC s a b D n).ti = 0 ∧ Car.step s (serveC s a b D n) ⟨o, b⟩ false = serveC s a b D (n + 1) ∧ ((smallN (serveC s a b D n).d.ph && smallN (serveC s a b D n).d.le && smallN (serveC s a b D n).d.ru) && smallN (serveC s a b D n).ti) = true ∧
    (serveC s a b D (n + 1)).fl = b ∧ (serveC s a b D (n + 1)).ti = 0 ∧ (serveC s a b D (n + 1)).d.ph = if n < D + s.op then 1 else if n < D + s.op + s.wa then 2 else if n < D + s.op + s.wa + s.cl then 3 else 0 := by
  have hb := Site.right_bd h.r
  by_cases h1 : n ≤ D + s.op
  · have e1 : serveC s a b D n = ⟨b, b, 0, ⟨1, s.op - (n - D - 1), 0, false⟩, false⟩ := by unfold serveC; rw [if_neg (by omega), if_neg (by omega), if_pos h1]
    rw [e1]
    have hsm : ((smallN 1 && smallN (s.op - (n - D - 1)) && smallN 0) && smallN 0) = true := by unfold smallN; simp; omega
    by_cases h2 : n < D + s.op
    · have e2 : serveC s a b D (n + 1) = ⟨b, b, 0, ⟨1, s.op - (n - D), 0, false⟩, false⟩ := by unfold serveC; rw [if_neg (by omega), if_neg (by omega), if_pos (by omega)]; congr 2; omega
      rw [e2, if_pos h2]
      refine ⟨rfl, rfl, ?_, hsm, rfl, rfl, rfl⟩
      rw [car_on (by dsimp only; decide), door_on (by decide), if_pos (by omega)]
      congr 2; omega
    · have e2 : serveC s a b D (n + 1) = ⟨b, b, 0, ⟨2, s.wa, 0, false⟩, false⟩ := by unfold serveC; rw [if_neg (by omega), if_neg (by omega), if_neg (by omega), if_pos (by omega)]; congr 2; omega
      rw [e2, if_neg h2, if_pos (by omega)]
      refine ⟨rfl, rfl, ?_, hsm, rfl, rfl, rfl⟩
      rw [car_on (by dsimp only; decide), door_on (by decide), if_neg (by omega)]
      rfl
  · by_cases h3 : n ≤ D + s.op + s.wa
    · have e1 : serveC s a b D n = ⟨b, b, 0, ⟨2, s.wa - (n - D - s.op - 1), 0, false⟩, false⟩ := by unfold serveC; rw [if_neg (by omega), if_neg (by omega), if_neg h1, if_pos h3]
      rw [e1]
      have hsm : ((smallN 2 && smallN (s.wa - (n - D - s.op - 1)) && smallN 0) && smallN 0) = true := by unfold smallN; simp; omega
      by_cases h2 : n < D + s.op + s.wa
      · have e2 : serveC s a b D (n + 1) = ⟨b, b, 0, ⟨2, s.wa - (n - D - s.op), 0, false⟩, false⟩ := by unfold serveC; rw [if_neg (by omega), if_neg (by omega), if_neg (by omega), if_pos (by omega)]; congr 2; omega
        rw [e2, if_neg (by omega), if_pos h2]
        refine ⟨rfl, rfl, ?_, hsm, rfl, rfl, rfl⟩
        rw [car_on (by dsimp only; decide), door_on (by decide), if_pos (by omega)]
        congr 2; omega
      · have e2 : serveC s a b D (n + 1) = ⟨b, b, 0, ⟨3, s.cl, 0, false⟩, false⟩ := by unfold serveC; rw [if_neg (by omega), if_neg (by omega), if_neg (by omega), if_neg (by omega), if_pos (by omega)]; congr 2; omega
        rw [e2, if_neg (by omega), if_neg h2, if_pos (by omega)]
        refine ⟨rfl, rfl, ?_, hsm, rfl, rfl, rfl⟩
        rw [car_on (by dsimp only; decide), door_on (by decide), if_neg (by omega)]
        rfl
    · have e1 : serveC s a b D n = ⟨b, b, 0, ⟨3, s.cl - (n - D - s.op - s.wa - 1), 0, false⟩, false⟩ := by unfold serveC; rw [if_neg (by omega), if_neg (by omega), if_neg h1, if_neg h3, if_pos hn]
      rw [e1]
      have hsm : ((smallN 3 && smallN (s.cl - (n - D - s.op - s.wa - 1)) && smallN 0) && smallN 0) = true := by unfold smallN; simp; omega
      by_cases h2 : n < D + s.op + s.wa + s.cl
      · have e2 : serveC s a b D (n + 1) = ⟨b, b, 0, ⟨3, s.cl - (n - D - s.op - s.wa), 0, false⟩, false⟩ := by unfold serveC; rw [if_neg (by omega), if_neg (by omega), if_neg (by omega), if_neg (by omega), if_pos (by omega)]; congr 2; omega
        rw [e2, if_neg (by omega), if_neg (by omega), if_pos h2]
        refine ⟨rfl, rfl, ?_, hsm, rfl, rfl, rfl⟩
        rw [car_on (by dsimp only; decide), door_on (by decide), if_pos (by omega)]
        congr 2; omega
      · have e2 : serveC s a b D (n + 1) = ⟨b, b, 0, ⟨0, 0, 0, false⟩, false⟩ := by unfold serveC; rw [if_neg (by omega), if_neg (by omega), if_neg (by omega), if_neg (by omega), if_neg (by omega)]
        rw [e2, if_neg (by omega), if_neg (by omega), if_neg h2]
        refine ⟨rfl, rfl, ?_, hsm, rfl, rfl, rfl⟩
        rw [car_on (by dsimp only; decide), door_on (by decide), if_neg (by omega)]
        rfl
/-- The tick in which the door was open, as far as is known. -/
def serveO (s : Site) (D n : Int) : Int := if n ≤ D + s.op then -1 else D + s.op
theorem CarServes (us : List AV) (h : areArgs tt [23, 3, 3] us) : runF XCL Try.f3 us [] (boo true) [] := by
  obtain ⟨_, _, rfl, hs, _, _, rfl, ha, _, _, rfl, hb, rfl⟩ := h
  obtain ⟨s, rfl⟩ := site_arg hs
  obtain ⟨a, rfl, ha1, ha2⟩ := int_arg ha
  obtain ⟨b, rfl, hb1, hb2⟩ := int_arg hb
  clear hs ha hb
  unfold runF
  (conv => arg 1; whnf); (repeat' (first | (refine brt (by assumption) ?_; (conv => arg 1; whnf)) | (refine brf (by assumption) ?_; (conv => arg 1; whnf)) | fail))
  by_cases hg : s.right = true ∧ 0 ≤ a ∧ a < s.fl ∧ 0 ≤ b ∧ b < s.fl ∧ s.sp ≤ 50 ∧ s.op + s.wa + s.cl + s.st + s.so ≤ 300
  · obtain ⟨hr, h1, h2, h3, h4, h5, h6⟩ := hg
    have hbd := Site.right_bd hr
    have hr' : Site.right ⟨s.fl, s.ca, s.st, s.sp, s.so, s.op, s.wa, s.cl, s.nu, s.ag, s.si, s.bu, s.pe⟩ = true := hr
    have g0 : (!s.right) = false := by rw [hr]; rfl
    have g1 : decide (a < 0) = false := decide_eq_false (by omega)
    have g2 : decide (s.fl ≤ a) = false := decide_eq_false (by omega)
    have g3 : decide (b < 0) = false := decide_eq_false (by omega)
    have g4 : decide (s.fl ≤ b) = false := decide_eq_false (by omega)
    have g5 : decide (50 < s.sp) = false := decide_eq_false (by omega)
    have g6 : decide (300 < IntKind.i64.wrap (IntKind.i64.wrap (IntKind.i64.wrap (IntKind.i64.wrap (s.op + s.wa) + s.cl) + s.st) + s.so)) = false := by
      rw [i64w (s.op + s.wa) (by omega) (by omega), i64w (s.op + s.wa + s.cl) (by omega) (by omega), i64w (s.op + s.wa + s.cl + s.st) (by omega) (by omega), i64w _ (by omega) (by omega)]
      exact decide_eq_false (by omega)
    have tb : 0 ≤ s.travel a b ∧ s.travel a b ≤ 3450 := by
      unfold Site.travel
      split
      · omega
      · unfold Site.ride
        have := mulr (a := s.sp) (b := if a < b then b - a else a - b) (m := 50) (n := 63) (by omega) (by omega) (by split <;> omega) (by split <;> omega)
        omega
    have tm : s.travel a b ≤ s.ride (s.fl - 1) := by
      unfold Site.travel
      split
      · have := Site.ride_bd hr (f := s.fl - 1) (by omega) (by omega); omega
      · unfold Site.ride
        have := Int.mul_le_mul_of_nonneg_left (show (if a < b then b - a else a - b) ≤ s.fl - 1 by split <;> omega) (show 0 ≤ s.sp by omega)
        omega
    obtain ⟨D, hD⟩ : ∃ D, D = if a = b then 0 else s.travel a b + 1 := ⟨_, rfl⟩
    have hS : Serve s a b D := ⟨hr, h1, h2, h3, h4, hD, by rw [hD]; split <;> omega, by rw [hD]; split <;> omega⟩
    have hD0 := hS.D0
    have hD1 : D ≤ 3451 := by rw [hD]; split <;> omega
    (conv => arg 1; whnf); (repeat' (first | (refine brt (by assumption) ?_; (conv => arg 1; whnf)) | (refine brf (by assumption) ?_; (conv => arg 1; whnf)) | fail))
    refine loopIn (fun n : Nat => (n : Int) ≤ D + s.op + s.wa + s.cl) (fun n => frm 135 [(1, i64 a), (2, i64 b), (3, .p 0 0), (7, .p 1 0), (8, i64 n), (9, i64 (serveO s D n))]) (fun n => [siteB s, carB (serveC s a b D n)]) (fun n => (D + s.op + s.wa + s.cl).toNat + 1 - n) 0 [0, 1] (by show ((0 : Nat) : Int) ≤ _; omega) (by decide) ?_ ?_ rfl fun n hn => ?_
    · repeat' (first | exact True.intro | exact Fit.dead _ | exact Fit.v _ | exact .i fun _ _ => rfl | exact Fit.ip | exact .p rfl | exact .q rfl | exact .s rfl | exact .y rfl | refine Fit.al ?_ | refine Fit.fl ?_ ?_ | refine And.intro ?_ ?_)
      exact Fit.v' (congrArg (Value.int .i64) (show serveO s D ((0 : Nat) : Int) = -1 from if_pos (by omega)))
    · refine ⟨⟨_, rfl, fitSite rfl⟩, ⟨_, rfl, fitCar (c' := ⟨a, a, 0, ⟨0, 0, 0, false⟩, false⟩) ?_⟩, trivial⟩
      by_cases hab : a = b
      · rw [if_pos hab] at hD
        rw [hD, hab]; exact serve_D s b b 0
      · rw [if_neg hab] at hD
        unfold serveC
        rw [if_pos (by omega)]
        simp
    · have f0 : decide ((n : Int) < 5000) = true := decide_eq_true (by omega)
      have hw : IntKind.i64.wrap ((n : Int) + 1) = ((n + 1 : Nat) : Int) := by rw [i64w _ (by omega) (by omega)]; omega
      have hc1 : ((n + 1 : Nat) : Int) = (n : Int) + 1 := by omega
      by_cases c1 : (n : Int) < D
      · obtain ⟨q1, q2, q3, q4, q5, q6, q7⟩ := hS.ride (n := n) (by omega) c1 false (fun _ => rfl)
        have f1 : decide ((serveC s a b D n).fl = b) = false := decide_eq_false (by rw [q2]; exact q1)
        have f2 : (s.right && (smallN (serveC s a b D n).d.ph && smallN (serveC s a b D n).d.le && smallN (serveC s a b D n).d.ru) && smallN (serveC s a b D n).ti) = true := by
          rw [hr, q4]; unfold smallN; simp; omega
        have f3 : decide ((Car.step s (serveC s a b D n) ⟨false, b⟩ false).d.ph = 2) = false := by rw [q3, q7]; rfl
        have f4 : decide (0 ≤ serveO s D n) = false := by unfold serveO; rw [if_pos (by omega)]; rfl
        have e2 : Car.step s (serveC s a b D n) ⟨false, b⟩ false = serveC s a b D ((n + 1 : Nat) : Int) := by rw [hc1]; exact q3
        (conv => arg 1; whnf); (repeat' (first | (refine brt (by assumption) ?_; (conv => arg 1; whnf)) | (refine brf (by assumption) ?_; (conv => arg 1; whnf)) | fail))
        refine again (n + 1) [0, 1] (by show ((n + 1 : Nat) : Int) ≤ _; omega) (by show (D + s.op + s.wa + s.cl).toNat + 1 - (n + 1) < (D + s.op + s.wa + s.cl).toNat + 1 - n; omega) (by decide) ?_ ⟨⟨_, rfl, fitSite rfl⟩, ⟨_, rfl, fitCar (e2.symm)⟩, trivial⟩ rfl
        repeat' (first | exact True.intro | exact Fit.dead _ | exact Fit.v _ | exact .i fun _ _ => rfl | exact Fit.ip | exact .p rfl | exact .q rfl | exact .s rfl | exact .y rfl | refine Fit.al ?_ | refine Fit.fl ?_ ?_ | refine And.intro ?_ ?_)
        · exact Fit.v' (congrArg (Value.int .i64) hw.symm)
        · exact Fit.v' (congrArg (Value.int .i64) (show serveO s D ((n + 1 : Nat) : Int) = serveO s D n by unfold serveO; rw [if_pos (by omega), if_pos (by omega)]))
      · by_cases c2 : (n : Int) = D
        · have c3 := c2
          obtain ⟨q1, q2⟩ := hS.opn
          rw [← c2] at q1 q2
          have e0 := serve_D s a b D
          rw [← c2] at e0
          have f1 : decide ((serveC s a b n n).fl = b) = true := by rw [e0]; simp
          subst c2
          have f2 : decide ((serveC s a b n n).ti = 0) = true := by rw [e0]; rfl
          have f3 : decide (serveO s n n < 0) = true := by unfold serveO; rw [if_pos (by omega)]; rfl
          have f4 : (s.right && (smallN (serveC s a b n n).d.ph && smallN (serveC s a b n n).d.le && smallN (serveC s a b n n).d.ru) && smallN (serveC s a b n n).ti) = true := by
            rw [hr, e0]; rfl
          have e2 : Car.step s (serveC s a b n n) ⟨decide (serveO s n n < 0), b⟩ false = serveC s a b n ((n + 1 : Nat) : Int) := by rw [f3, hc1]; exact q1
          have f5 : decide ((Car.step s (serveC s a b n n) ⟨decide (serveO s n n < 0), b⟩ false).d.ph = 2) = false := by rw [e2, hc1, q2]; rfl
          have f6 : decide (0 ≤ serveO s n n) = false := by unfold serveO; rw [if_pos (by omega)]; rfl
          (conv => arg 1; whnf); (repeat' (first | (refine brt (by assumption) ?_; (conv => arg 1; whnf)) | (refine brf (by assumption) ?_; (conv => arg 1; whnf)) | fail))
          refine again (n + 1) [0, 1] (by show ((n + 1 : Nat) : Int) ≤ _; omega) (by show (n + s.op + s.wa + s.cl).toNat + 1 - (n + 1) < (n + s.op + s.wa + s.cl).toNat + 1 - n; omega) (by decide) ?_ ⟨⟨_, rfl, fitSite rfl⟩, ⟨_, rfl, fitCar (e2.symm)⟩, trivial⟩ rfl
          repeat' (first | exact True.intro | exact Fit.dead _ | exact Fit.v _ | exact .i fun _ _ => rfl | exact Fit.ip | exact .p rfl | exact .q rfl | exact .s rfl | exact .y rfl | refine Fit.al ?_ | refine Fit.fl ?_ ?_ | refine And.intro ?_ ?_)
          · exact Fit.v' (congrArg (Value.int .i64) hw.symm)
          · exact Fit.v' (congrArg (Value.int .i64) (show serveO s n ((n + 1 : Nat) : Int) = serveO s n n by unfold serveO; rw [if_pos (by omega), if_pos (by omega)]))
        · obtain ⟨q1, q2, q3, q4, q5, q6, q7⟩ := hS.door (n := n) (by omega) hn (decide (serveO s D n < 0))
          have f1 : decide ((serveC s a b D n).fl = b) = true := decide_eq_true q1
          have f2 : decide ((serveC s a b D n).ti = 0) = true := decide_eq_true q2
          have f4 : (s.right && (smallN (serveC s a b D n).d.ph && smallN (serveC s a b D n).d.le && smallN (serveC s a b D n).d.ru) && smallN (serveC s a b D n).ti) = true := by
            rw [hr, Bool.true_and]; exact q4
          have e2 : Car.step s (serveC s a b D n) ⟨decide (serveO s D n < 0), b⟩ false = serveC s a b D ((n + 1 : Nat) : Int) := by rw [hc1]; exact q3
          by_cases c3 : (n : Int) < D + s.op
          · rw [if_pos c3] at q7
            have f3 : decide (serveO s D n < 0) = true := by unfold serveO; rw [if_pos (by omega)]; rfl
            have f5 : decide ((Car.step s (serveC s a b D n) ⟨decide (serveO s D n < 0), b⟩ false).d.ph = 2) = false := by rw [e2, hc1, q7]; rfl
            have f6 : decide (0 ≤ serveO s D n) = false := by unfold serveO; rw [if_pos (by omega)]; rfl
            (conv => arg 1; whnf); (repeat' (first | (refine brt (by assumption) ?_; (conv => arg 1; whnf)) | (refine brf (by assumption) ?_; (conv => arg 1; whnf)) | fail))
            refine again (n + 1) [0, 1] (by show ((n + 1 : Nat) : Int) ≤ _; omega) (by show (D + s.op + s.wa + s.cl).toNat + 1 - (n + 1) < (D + s.op + s.wa + s.cl).toNat + 1 - n; omega) (by decide) ?_ ⟨⟨_, rfl, fitSite rfl⟩, ⟨_, rfl, fitCar (e2.symm)⟩, trivial⟩ rfl
            repeat' (first | exact True.intro | exact Fit.dead _ | exact Fit.v _ | exact .i fun _ _ => rfl | exact Fit.ip | exact .p rfl | exact .q rfl | exact .s rfl | exact .y rfl | refine Fit.al ?_ | refine Fit.fl ?_ ?_ | refine And.intro ?_ ?_)
            · exact Fit.v' (congrArg (Value.int .i64) hw.symm)
            · exact Fit.v' (congrArg (Value.int .i64) (show serveO s D ((n + 1 : Nat) : Int) = serveO s D n by unfold serveO; rw [if_pos (by omega), if_pos (by omega)]))
          · rw [if_neg c3] at q7
            by_cases c4 : (n : Int) = D + s.op
            · rw [if_pos (by omega)] at q7
              have f3 : decide (serveO s D n < 0) = true := by unfold serveO; rw [if_pos (by omega)]; rfl
              have f5 : decide ((Car.step s (serveC s a b D n) ⟨decide (serveO s D n < 0), b⟩ false).d.ph = 2) = true := by rw [e2, hc1, q7]; rfl
              have f6 : (!decide ((Car.step s (serveC s a b D n) ⟨decide (serveO s D n < 0), b⟩ false).fl = b)) = false := by rw [e2, hc1, q5]; simp
              have f7 : (!decide ((Car.step s (serveC s a b D n) ⟨decide (serveO s D n < 0), b⟩ false).ti = 0)) = false := by rw [e2, hc1, q6]; simp
              have f8 : decide (0 ≤ (n : Int)) = true := decide_eq_true (by omega)
              have f9 : (Car.step s (serveC s a b D n) ⟨decide (serveO s D n < 0), b⟩ false).idle = false := by rw [e2, hc1]; unfold Car.idle; rw [q6, q7]; rfl
              (conv => arg 1; whnf); (repeat' (first | (refine brt (by assumption) ?_; (conv => arg 1; whnf)) | (refine brf (by assumption) ?_; (conv => arg 1; whnf)) | fail))
              refine again (n + 1) [0, 1] (by show ((n + 1 : Nat) : Int) ≤ _; omega) (by show (D + s.op + s.wa + s.cl).toNat + 1 - (n + 1) < (D + s.op + s.wa + s.cl).toNat + 1 - n; omega) (by decide) ?_ ⟨⟨_, rfl, fitSite rfl⟩, ⟨_, rfl, fitCar (e2.symm)⟩, trivial⟩ rfl
              repeat' (first | exact True.intro | exact Fit.dead _ | exact Fit.v _ | exact .i fun _ _ => rfl | exact Fit.ip | exact .p rfl | exact .q rfl | exact .s rfl | exact .y rfl | refine Fit.al ?_ | refine Fit.fl ?_ ?_ | refine And.intro ?_ ?_)
              · exact Fit.v' (congrArg (Value.int .i64) hw.symm)
              · exact Fit.v' (congrArg (Value.int .i64) (show serveO s D ((n + 1 : Nat) : Int) = n by unfold serveO; rw [if_neg (by omega)]; omega))
            · have f3 : decide (serveO s D n < 0) = false := by unfold serveO; rw [if_neg (by omega)]; exact decide_eq_false (by omega)
              have f6 : decide (0 ≤ serveO s D n) = true := by unfold serveO; rw [if_neg (by omega)]; exact decide_eq_true (by omega)
              have hso : serveO s D ((n + 1 : Nat) : Int) = serveO s D n := by unfold serveO; rw [if_neg (by omega), if_neg (by omega)]
              by_cases c5 : (n : Int) < D + s.op + s.wa
              · rw [if_pos c5] at q7
                have f5 : decide ((Car.step s (serveC s a b D n) ⟨decide (serveO s D n < 0), b⟩ false).d.ph = 2) = true := by rw [e2, hc1, q7]; rfl
                have f9 : (Car.step s (serveC s a b D n) ⟨decide (serveO s D n < 0), b⟩ false).idle = false := by rw [e2, hc1]; unfold Car.idle; rw [q6, q7]; rfl
                (conv => arg 1; whnf); (repeat' (first | (refine brt (by assumption) ?_; (conv => arg 1; whnf)) | (refine brf (by assumption) ?_; (conv => arg 1; whnf)) | fail))
                refine again (n + 1) [0, 1] (by show ((n + 1 : Nat) : Int) ≤ _; omega) (by show (D + s.op + s.wa + s.cl).toNat + 1 - (n + 1) < (D + s.op + s.wa + s.cl).toNat + 1 - n; omega) (by decide) ?_ ⟨⟨_, rfl, fitSite rfl⟩, ⟨_, rfl, fitCar (e2.symm)⟩, trivial⟩ rfl
                repeat' (first | exact True.intro | exact Fit.dead _ | exact Fit.v _ | exact .i fun _ _ => rfl | exact Fit.ip | exact .p rfl | exact .q rfl | exact .s rfl | exact .y rfl | refine Fit.al ?_ | refine Fit.fl ?_ ?_ | refine And.intro ?_ ?_)
                · exact Fit.v' (congrArg (Value.int .i64) hw.symm)
                · exact Fit.v' (congrArg (Value.int .i64) hso)
              · rw [if_neg c5] at q7
                by_cases c6 : (n : Int) < D + s.op + s.wa + s.cl
                · rw [if_pos c6] at q7
                  have f5 : decide ((Car.step s (serveC s a b D n) ⟨decide (serveO s D n < 0), b⟩ false).d.ph = 2) = false := by rw [e2, hc1, q7]; rfl
                  have f9 : (Car.step s (serveC s a b D n) ⟨decide (serveO s D n < 0), b⟩ false).idle = false := by rw [e2, hc1]; unfold Car.idle; rw [q6, q7]; rfl
                  (conv => arg 1; whnf); (repeat' (first | (refine brt (by assumption) ?_; (conv => arg 1; whnf)) | (refine brf (by assumption) ?_; (conv => arg 1; whnf)) | fail))
                  refine again (n + 1) [0, 1] (by show ((n + 1 : Nat) : Int) ≤ _; omega) (by show (D + s.op + s.wa + s.cl).toNat + 1 - (n + 1) < (D + s.op + s.wa + s.cl).toNat + 1 - n; omega) (by decide) ?_ ⟨⟨_, rfl, fitSite rfl⟩, ⟨_, rfl, fitCar (e2.symm)⟩, trivial⟩ rfl
                  repeat' (first | exact True.intro | exact Fit.dead _ | exact Fit.v _ | exact .i fun _ _ => rfl | exact Fit.ip | exact .p rfl | exact .q rfl | exact .s rfl | exact .y rfl | refine Fit.al ?_ | refine Fit.fl ?_ ?_ | refine And.intro ?_ ?_)
                  · exact Fit.v' (congrArg (Value.int .i64) hw.symm)
                  · exact Fit.v' (congrArg (Value.int .i64) hso)
                · rw [if_neg c6] at q7
                  have f5 : decide ((Car.step s (serveC s a b D n) ⟨decide (serveO s D n < 0), b⟩ false).d.ph = 2) = false := by rw [e2, hc1, q7]; rfl
                  have f9 : (Car.step s (serveC s a b D n) ⟨decide (serveO s D n < 0), b⟩ false).idle = true := by rw [e2, hc1]; unfold Car.idle; rw [q6, q7]; rfl
                  have hend : serveC s a b D ((n + 1 : Nat) : Int) = ⟨b, b, 0, ⟨0, 0, 0, false⟩, false⟩ := by
                    unfold serveC; rw [if_neg (by omega), if_neg (by omega), if_neg (by omega), if_neg (by omega), if_neg (by omega)]
                  (conv => arg 1; whnf); (repeat' (first | (refine brt (by assumption) ?_; (conv => arg 1; whnf)) | (refine brf (by assumption) ?_; (conv => arg 1; whnf)) | fail))
                  refine leave ?_
                  show tr _
                  have hsv : serveO s D n = D + s.op := if_neg (by omega)
                  have sv := Site.service_bd hr 0
                  have h7 : (n : Int) < s.service 0 := by
                    have e3 : s.service 0 = s.ride (s.fl - 1) + s.door + s.nu * (s.door + clampH 0) := rfl
                    have e4 : s.door = s.op + s.wa + s.cl + 4 := rfl
                    have : D ≤ s.travel a b + 1 := by rw [hD]; split <;> omega
                    omega
                  by_cases hR : s.travel a b = 0
                  · have k1 : decide (s.travel a b = 0) = true := decide_eq_true hR
                    have hD' : D = 0 := by
                      rw [hD]
                      by_cases hab : a = b
                      · rw [if_pos hab]
                      · exfalso
                        have := (hS.ride (n := 0) (by omega) (by rw [hD, if_neg hab]; omega) false (fun _ => rfl)).1
                        unfold Site.travel at hR
                        rw [if_neg (by omega)] at hR
                        unfold Site.ride at hR
                        have : 1 ≤ s.sp * (if a < b then b - a else a - b) := Int.mul_pos (by omega) (by split <;> omega)
                        omega
                    have k2 : decide (serveO s D n = IntKind.i64.wrap (IntKind.i64.wrap (s.travel a b + 0) + s.op)) = true := by
                      rw [hsv, i64w (s.travel a b + 0) (by omega) (by omega), i64w _ (by omega) (by omega)]; exact decide_eq_true (by omega)
                    have k3 : decide ((n : Int) < s.service 0) = true := decide_eq_true h7
                    (conv => arg 1; whnf); (repeat' (first | (refine brt (by assumption) ?_; (conv => arg 1; whnf)) | (refine brf (by assumption) ?_; (conv => arg 1; whnf)) | fail))
                    refine finB ?_
                    rw [e2, hend]
                    simp
                  · have k1 : decide (s.travel a b = 0) = false := decide_eq_false hR
                    have hD' : D = s.travel a b + 1 := by
                      rw [hD]
                      by_cases hab : a = b
                      · exfalso; rw [hab, Site.travel_self] at hR; exact hR rfl
                      · rw [if_neg hab]
                    have k2 : decide (serveO s D n = IntKind.i64.wrap (IntKind.i64.wrap (s.travel a b + 1) + s.op)) = true := by
                      rw [hsv, i64w (s.travel a b + 1) (by omega) (by omega), i64w _ (by omega) (by omega)]; exact decide_eq_true (by omega)
                    have k3 : decide ((n : Int) < s.service 0) = true := decide_eq_true h7
                    (conv => arg 1; whnf); (repeat' (first | (refine brt (by assumption) ?_; (conv => arg 1; whnf)) | (refine brf (by assumption) ?_; (conv => arg 1; whnf)) | fail))
                    refine finB ?_
                    rw [e2, hend]
                    simp
  · refine br (fun h => ?_) (fun g0 => ?_) <;> ((conv => arg 1; whnf); (repeat' (first | (refine brt (by assumption) ?_; (conv => arg 1; whnf)) | (refine brf (by assumption) ?_; (conv => arg 1; whnf)) | fail)))
    · exact finB rfl
    refine br (fun h => ?_) (fun g1 => ?_) <;> ((conv => arg 1; whnf); (repeat' (first | (refine brt (by assumption) ?_; (conv => arg 1; whnf)) | (refine brf (by assumption) ?_; (conv => arg 1; whnf)) | fail)))
    · exact finB rfl
    refine br (fun h => ?_) (fun g2 => ?_) <;> ((conv => arg 1; whnf); (repeat' (first | (refine brt (by assumption) ?_; (conv => arg 1; whnf)) | (refine brf (by assumption) ?_; (conv => arg 1; whnf)) | fail)))
    · exact finB rfl
    refine br (fun h => ?_) (fun g3 => ?_) <;> ((conv => arg 1; whnf); (repeat' (first | (refine brt (by assumption) ?_; (conv => arg 1; whnf)) | (refine brf (by assumption) ?_; (conv => arg 1; whnf)) | fail)))
    · exact finB rfl
    refine br (fun h => ?_) (fun g4 => ?_) <;> ((conv => arg 1; whnf); (repeat' (first | (refine brt (by assumption) ?_; (conv => arg 1; whnf)) | (refine brf (by assumption) ?_; (conv => arg 1; whnf)) | fail)))
    · exact finB rfl
    refine br (fun h => ?_) (fun g5 => ?_) <;> ((conv => arg 1; whnf); (repeat' (first | (refine brt (by assumption) ?_; (conv => arg 1; whnf)) | (refine brf (by assumption) ?_; (conv => arg 1; whnf)) | fail)))
    · exact finB rfl
    refine br (fun h => ?_) (fun g6 => ?_) <;> ((conv => arg 1; whnf); (repeat' (first | (refine brt (by assumption) ?_; (conv => arg 1; whnf)) | (refine brf (by assumption) ?_; (conv => arg 1; whnf)) | fail)))
    · exact finB rfl
    exfalso
    apply hg
    have hr : s.right = true := by
      have h' : (!s.right) = false := g0
      simpa using h'
    have hbd := Site.right_bd hr
    have w1 := i64w (s.op + s.wa) (by omega) (by omega)
    have w2 := i64w (s.op + s.wa + s.cl) (by omega) (by omega)
    have w3 := i64w (s.op + s.wa + s.cl + s.st) (by omega) (by omega)
    have w4 := i64w (s.op + s.wa + s.cl + s.st + s.so) (by omega) (by omega)
    simp only [w1, w2, w3, w4, decide_eq_false_iff_not] at g1 g2 g3 g4 g5 g6
    exact ⟨hr, by omega, by omega, by omega, by omega, by omega, by omega⟩
end Go.Proofs.Ytbilkjolopdeiaa.E
