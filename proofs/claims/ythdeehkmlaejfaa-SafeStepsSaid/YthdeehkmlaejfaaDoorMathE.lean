/- Doors that may be: what is so of them. -/
import Derived.Test.YthdeehkmlaejfaaSitesE
import Derived.Test.YthdeehkmlaejfaaDoorE
import Derived.Test.YthdeehkmlaejfaaArgsE
namespace Go.Proofs.Ythdeehkmlaejfaa.E
open Go
set_option linter.unusedSimpArgs false
set_option maxRecDepth 100000
set_option maxHeartbeats 4000000

theorem door_arg {u : AV} (h : isArg tt 30 u) : ∃ d : Door, u = d.av ∧ -9223372036854775808 ≤ d.ph ∧ d.ph ≤ 9223372036854775807 ∧ -9223372036854775808 ≤ d.le ∧ d.le ≤ 9223372036854775807 ∧ -9223372036854775808 ≤ d.ru ∧ d.ru ≤ 9223372036854775807 := by
  obtain ⟨_, ⟨_, _, rfl, ⟨a1, rfl, w1⟩, _, _, rfl, ⟨a2, rfl, w2⟩, _, _, rfl, ⟨a3, rfl, w3⟩, _, _, rfl, ⟨a4, rfl⟩, rfl⟩, rfl⟩ := h
  have h1 := wf_i64 w1; have h2 := wf_i64 w2; have h3 := wf_i64 w3
  exact ⟨⟨a1, a2, a3, a4⟩, rfl, h1.1, h1.2, h2.1, h2.2, h3.1, h3.2⟩
theorem Door.right_bd {s : Site} {d : Door} (h : d.right s = true) : s.right = true ∧ 0 ≤ d.ph ∧ d.ph ≤ 3 ∧ (d.ph = 0 → d.le = 0 ∧ d.ru = 0 ∧ d.he = false) ∧ (d.ph ≠ 0 → 0 ≤ d.ru ∧ d.ru ≤ s.nu ∧ 1 ≤ d.le ∧ d.le ≤ s.tk d.ph) := by
  unfold Door.right at h
  simp only [Bool.and_eq_true, decide_eq_true_eq] at h
  obtain ⟨h1, h2, h3, h4⟩ := h
  refine ⟨h1, h2, h3, fun h0 => ?_, fun h0 => ?_⟩
  · rw [if_pos h0] at h4
    simpa using h4
  · rw [if_neg h0] at h4
    simpa using h4
theorem Site.tk_bd {s : Site} (h : s.right = true) (p : Int) : 0 ≤ s.tk p ∧ s.tk p ≤ 1000 := by
  have := Site.right_bd h
  unfold Site.tk
  split <;> (try split) <;> (try split) <;> omega
theorem Door.right_small {s : Site} {d : Door} (h : d.right s = true) : smallN d.ph = true ∧ smallN d.le = true ∧ smallN d.ru = true ∧ (decide (d.ph = 0) || decide (1 ≤ d.le)) = true := by
  obtain ⟨h1, h2, h3, h4, h5⟩ := Door.right_bd h
  have h6 := Site.tk_bd h1 d.ph
  have h7 := Site.right_bd h1
  unfold smallN
  simp only [Bool.and_eq_true, Bool.or_eq_true, decide_eq_true_eq]
  by_cases h0 : d.ph = 0
  · have := h4 h0; omega
  · have := h5 h0; omega
theorem Door.right_mk {s : Site} {d : Door} (h1 : s.right = true) (h2 : 0 ≤ d.ph) (h3 : d.ph ≤ 3) (h4 : d.ph = 0 → d.le = 0 ∧ d.ru = 0 ∧ d.he = false) (h5 : d.ph ≠ 0 → 0 ≤ d.ru ∧ d.ru ≤ s.nu ∧ 1 ≤ d.le ∧ d.le ≤ s.tk d.ph) : d.right s = true := by
  unfold Door.right
  simp only [Bool.and_eq_true, decide_eq_true_eq]
  refine ⟨h1, h2, h3, ?_⟩
  by_cases h0 : d.ph = 0
  · rw [if_pos h0]; simpa using h4 h0
  · rw [if_neg h0]; simpa using h5 h0
theorem enter_right {s : Site} {d : Door} (hs : s.right = true) (h1 : 0 ≤ d.ru) (h2 : d.ru ≤ s.nu) {p : Int} (hp : 0 ≤ p) (hp' : p ≤ 3) : (d.enter s p).right s = true := by
  have hb := Site.right_bd hs
  unfold Door.enter
  by_cases h0 : p = 0
  · subst h0; exact Door.right_mk hs (by simp) (by simp) (by simp) (by simp)
  · rw [if_neg h0]
    refine Door.right_mk hs hp hp' (fun h => absurd h h0) fun _ => ⟨h1, h2, ?_, Int.le_refl _⟩
    show 1 ≤ s.tk p
    have : p = 1 ∨ p = 2 ∨ p = 3 := by omega
    rcases this with rfl | rfl | rfl <;> simp [Site.tk] <;> omega
theorem hold_ru {s : Site} {d : Door} {b : Bool} (h1 : 0 ≤ d.ru) (h2 : d.ru ≤ s.nu) : 0 ≤ (d.hold s b).ru ∧ (d.hold s b).ru ≤ s.nu := by
  unfold Door.hold
  split
  · split
    · rename_i h; simp at h; dsimp; omega
    · exact ⟨h1, h2⟩
  · exact ⟨h1, h2⟩
theorem step_right {s : Site} {d : Door} (h : d.right s = true) (o b : Bool) : (d.step s o b).right s = true := by
  obtain ⟨h1, h2, h3, h4, h5⟩ := Door.right_bd h
  have hb := Site.right_bd h1
  unfold Door.step
  by_cases h0 : d.ph = 0
  · rw [if_pos h0]
    split
    · exact enter_right h1 (by rw [(h4 h0).2.1]; omega) (by rw [(h4 h0).2.1]; omega) (by decide) (by decide)
    · exact h
  · rw [if_neg h0]
    have h6 := h5 h0
    have h7 := hold_ru (b := b) h6.1 h6.2.1
    split
    · exact enter_right h1 h7.1 h7.2 (by decide) (by decide)
    · split
      · exact enter_right h1 h7.1 h7.2 (by decide) (by decide)
      · split
        · rename_i hg
          rw [hold_le] at hg
          refine Door.right_mk h1 (by rw [hold_ph]; exact h2) (by rw [hold_ph]; exact h3) (fun h => absurd h (by rw [hold_ph]; exact h0)) fun _ => ⟨h7.1, h7.2, ?_, ?_⟩
          · dsimp; rw [hold_le]; omega
          · dsimp; rw [hold_le, hold_ph]; omega
        · rw [hold_ph]
          refine enter_right h1 h7.1 h7.2 ?_ ?_
          · have := Int.tmod_nonneg (a := d.ph + 1) 4 (by omega); exact this
          · have := Int.tmod_lt_of_pos (d.ph + 1) (b := 4) (by decide); omega

/-! ### DoorHeld -/
end Go.Proofs.Ythdeehkmlaejfaa.E
