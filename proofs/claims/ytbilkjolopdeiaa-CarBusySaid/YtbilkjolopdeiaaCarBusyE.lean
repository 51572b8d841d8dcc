/- The law CarBusy, by the engine. -/
import Derived.Test.YtbilkjolopdeiaaCarLawsE
namespace Go.Proofs.Ytbilkjolopdeiaa.E
open Go NumMath
set_option linter.unusedSimpArgs false
set_option linter.unusedVariables false
set_option maxRecDepth 100000
set_option maxHeartbeats 4000000
theorem Car.step_busy {s : Site} {c : Car} (h : c.ti ≠ 0 ∨ c.d.ph ≠ 0) (a b : Cmd) (f : Bool) (bl : Bool) : Car.step s ⟨c.fl, c.ta, c.ti, c.d, f⟩ b bl = ⟨(c.step s a bl).fl, (c.step s a bl).ta, (c.step s a bl).ti, (c.step s a bl).d, f⟩ := by
  have hd : c.d.ph ≠ 0 → Door.step s c.d b.op bl = Door.step s c.d a.op bl := fun h => by
    unfold Door.step
    rw [if_neg h, if_neg h]
  by_cases h0 : c.ti = 0
  · have h1 : c.d.ph ≠ 0 := by
      rcases h with h | h
      · exact absurd h0 h
      · exact h
    simp [Car.step, h0, h1, hd h1]
  · by_cases h1 : c.ti - 1 = 0
    · simp [Car.step, h0, h1]
    · simp [Car.step, h0, h1]
theorem CarBusy (us : List AV) (h : areArgs tt [23, 29, 32, 32, 4] us) : runF XCL Try.f4 us [] (boo true) [] := by
  obtain ⟨_, _, rfl, hs, _, _, rfl, hc, _, _, rfl, ha, _, _, rfl, hb, _, _, rfl, hk, rfl⟩ := h
  obtain ⟨s, rfl⟩ := site_arg hs
  obtain ⟨c, rfl⟩ := car_arg hc
  obtain ⟨a, rfl⟩ := cmd_arg ha
  obtain ⟨b, rfl⟩ := cmd_arg hb
  obtain ⟨bl, rfl⟩ := bool_arg hk
  clear hs hc ha hb hk
  obtain ⟨s1, s2, s3, s4, s5, s6, s7, s8, s9, s10, s11, s12, s13⟩ := s
  obtain ⟨fl, ta, ti, ⟨ph, le, ru, he⟩, fa⟩ := c
  obtain ⟨aop, ago⟩ := a
  obtain ⟨bop, bgo⟩ := b
  unfold runF
  (conv => arg 1; whnf); (repeat' (first | (refine brt (by assumption) ?_; (conv => arg 1; whnf)) | (refine brf (by assumption) ?_; (conv => arg 1; whnf)) | fail))
  refine br (fun h => ?_) (fun h => ?_)
  · (conv => arg 1; whnf); (repeat' (first | (refine brt (by assumption) ?_; (conv => arg 1; whnf)) | (refine brf (by assumption) ?_; (conv => arg 1; whnf)) | fail))
    exact finB rfl
  · generalize hS : Site.mk s1 s2 s3 s4 s5 s6 s7 s8 s9 s10 s11 s12 s13 = s at h
    generalize hC : Car.mk fl ta ti ⟨ph, le, ru, he⟩ fa = c at h
    have hr : c.right s = true := by
      have h' : (!c.right s) = false := h
      simpa using h'
    have hc0 := Car.step_cond hr
    have i1 : c.idle = true → ∀ o, Car.step s ⟨c.fl, c.ta, c.ti, c.d, true⟩ o bl = ⟨c.fl, c.ta, c.ti, c.d, true⟩ := fun hi o => by
      unfold Car.idle at hi
      simp only [Bool.and_eq_true, decide_eq_true_eq] at hi
      unfold Car.step
      simp [hi.1, hi.2]
    have i2 : c.idle = false → ∀ f o, Car.step s ⟨c.fl, c.ta, c.ti, c.d, f⟩ o bl = ⟨(c.step s ⟨aop, ago⟩ bl).fl, (c.step s ⟨aop, ago⟩ bl).ta, (c.step s ⟨aop, ago⟩ bl).ti, (c.step s ⟨aop, ago⟩ bl).d, f⟩ := fun hi f o => by
      refine Car.step_busy ?_ ⟨aop, ago⟩ o f bl
      unfold Car.idle at hi
      by_cases h0 : c.ti = 0
      · right
        simpa [h0] using hi
      · exact .inl h0
    subst hS hC
    dsimp only at hc0 i1 i2
    (conv => arg 1; whnf); (repeat' (first | (refine brt (by assumption) ?_; (conv => arg 1; whnf)) | (refine brf (by assumption) ?_; (conv => arg 1; whnf)) | fail))
    refine br (fun hi => ?_) (fun hi => ?_)
    · have e1 := i1 hi ⟨aop, ago⟩
      (conv => arg 1; whnf); (repeat' (first | (refine brt (by assumption) ?_; (conv => arg 1; whnf)) | (refine brf (by assumption) ?_; (conv => arg 1; whnf)) | fail))
      refine finB ?_
      show true = _
      simp [e1]
    · have e1 := i2 hi fa ⟨bop, bgo⟩
      have e2 := i2 hi (!fa) ⟨bop, bgo⟩
      have e0 := congrArg Car.fa (i2 hi fa ⟨aop, ago⟩)
      dsimp only at e0
      clear i1 i2
      (conv => arg 1; whnf); (repeat' (first | (refine brt (by assumption) ?_; (conv => arg 1; whnf)) | (refine brf (by assumption) ?_; (conv => arg 1; whnf)) | fail))
      (refine brt ?_ ?_; (focus (simp [e1, e0]; done)); (conv => arg 1; whnf))
      repeat' (first | (refine brt (by assumption) ?_; (conv => arg 1; whnf)) | (refine brt (by simp [e1, e2, e0]; done) ?_; (conv => arg 1; whnf)))
      refine finB ?_
      simp [e1, e2, e0]
end Go.Proofs.Ytbilkjolopdeiaa.E
