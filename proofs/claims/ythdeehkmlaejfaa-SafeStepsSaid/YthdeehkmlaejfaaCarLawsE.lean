/- The laws of cars: what they call, their arguments. -/
import Derived.Test.YthdeehkmlaejfaaCarE
import Derived.Test.YthdeehkmlaejfaaBitsE
namespace Go.Proofs.Ythdeehkmlaejfaa.E
open Go NumMath
set_option linter.unusedSimpArgs false
set_option linter.unusedVariables false
set_option maxRecDepth 100000
set_option maxHeartbeats 4000000


theorem car_arg {u : AV} (h : isArg tt 32 u) : ∃ c : Car, u = c.av := by
  obtain ⟨_, ⟨_, _, rfl, ⟨a1, rfl, w1⟩, _, _, rfl, ⟨a2, rfl, w2⟩, _, _, rfl, ⟨a3, rfl, w3⟩, _, _, rfl, ⟨_, _, rfl, ⟨a4, rfl, w4⟩, _, _, rfl, ⟨a5, rfl, w5⟩, _, _, rfl, ⟨a6, rfl, w6⟩, _, _, rfl, ⟨a7, rfl⟩, rfl⟩, _, _, rfl, ⟨a8, rfl⟩, rfl⟩, rfl⟩ := h
  exact ⟨⟨a1, a2, a3, ⟨a4, a5, a6, a7⟩, a8⟩, rfl⟩
theorem cmd_arg {u : AV} (h : isArg tt 36 u) : ∃ c : Cmd, u = c.av := by
  obtain ⟨_, ⟨_, _, rfl, ⟨a1, rfl⟩, _, _, rfl, ⟨a2, rfl, w2⟩, rfl⟩, rfl⟩ := h
  exact ⟨⟨a1, a2⟩, rfl⟩
abbrev carB (c : Car) : Blk := .lit [i64 c.fl, i64 c.ta, i64 c.ti, i64 c.d.ph, i64 c.d.le, i64 c.d.ru, boo c.d.he, boo c.fa]
/-- What a car is told in a tick, whether somebody stands in its door, whether it has a fault. -/
structure Tk where
  o : Cmd
  (bl fa : Bool)
def eTk : Elt Tk := ⟨4, fun u => match u with | [.v (.bool a), .v (.int .i64 b), .v (.bool c), .v (.bool d)] => some ⟨⟨a, b⟩, c, d⟩ | _ => none, fun p => [boo p.o.op, i64 p.o.go, boo p.bl, boo p.fa], ⟨⟨false, 0⟩, false, false⟩, fun {u a} h => (by split at h <;> first | (obtain rfl := Option.some.inj h; rfl) | cases h), fun _ => rfl⟩
theorem Car.step_cases (s : Site) (c : Car) (o : Cmd) (b : Bool) :
    (c.ti = 1 ∧ c.step s o b = ⟨c.ta, c.ta, 0, c.d, c.fa⟩) ∨ (c.ti ≠ 0 ∧ c.ti ≠ 1 ∧ c.step s o b = ⟨c.fl, c.ta, c.ti - 1, c.d, c.fa⟩) ∨
    (c.ti = 0 ∧ (c.d.ph ≠ 0 ∨ (c.fa = false ∧ o.op = true)) ∧ c.step s o b = ⟨c.fl, c.ta, c.ti, c.d.step s o.op b, c.fa⟩) ∨
    (c.ti = 0 ∧ c.d.ph = 0 ∧ c.fa = false ∧ o.op = false ∧ s.has o.go = true ∧ o.go ≠ c.fl ∧ c.step s o b = ⟨c.fl, o.go, s.travel c.fl o.go, c.d, c.fa⟩) ∨
    (c.ti = 0 ∧ c.d.ph = 0 ∧ c.step s o b = c) := by
  unfold Car.step
  by_cases h0 : c.ti = 0
  · rw [if_neg (fun h => h h0)]
    by_cases h1 : c.d.ph ≠ 0 ∨ (c.fa = false ∧ o.op = true)
    · rw [if_pos h1]
      exact .inr (.inr (.inl ⟨h0, h1, rfl⟩))
    · rw [if_neg h1]
      have hp : c.d.ph = 0 := by
        by_cases hp : c.d.ph = 0
        · exact hp
        · exact absurd (.inl hp) h1
      by_cases h2 : c.fa = false ∧ s.has o.go = true ∧ o.go ≠ c.fl
      · rw [if_pos h2]
        refine .inr (.inr (.inr (.inl ⟨h0, hp, h2.1, ?_, h2.2.1, h2.2.2, rfl⟩)))
        cases ho : o.op with
        | false => rfl
        | true => exact absurd (.inr ⟨h2.1, ho⟩) h1
      · rw [if_neg h2]
        exact .inr (.inr (.inr (.inr ⟨h0, hp, rfl⟩)))
  · rw [if_pos h0]
    by_cases h1 : c.ti - 1 = 0
    · rw [if_pos h1]; exact .inl ⟨by omega, rfl⟩
    · rw [if_neg h1]; exact .inr (.inl ⟨h0, by omega, rfl⟩)
/-- A step of a car that may be is safe, whatever fault it has. -/
theorem Car.step_safe {s : Site} {c : Car} (h : c.right s = true) (o : Cmd) (b : Bool) : c.safe s (c.step s o b) = true := by
  have hn := Car.step_right h o b
  unfold Car.safe
  rw [h, hn, Bool.true_and, Bool.true_and]
  obtain ⟨h1, h2, h3, h4, h5, h6, h7, h8, h9, h10⟩ := Car.right_bd h
  rcases Car.step_cases s c o b with ⟨g1, e⟩ | ⟨g1, g2, e⟩ | ⟨g1, g2, e⟩ | ⟨g1, g2, g3, g4, g5, g6, e⟩ | ⟨g1, g2, e⟩ <;> rw [e] <;> (try dsimp only)
  · have := (h10 (by omega)).1
    rw [if_pos rfl, if_neg (by omega), this]
    simp [g1]
  · rw [if_neg (by omega), if_neg g1]
    simp
  · rw [if_pos g1, if_pos g1]; simp
  · unfold Car.idle
    simp [g1, g2]
  · rw [if_pos g1, if_pos g1]; simp
theorem FitL.refl {ρ : List Nat} {σ : St} : ∀ {l : List AV}, (∀ u ∈ l, ∃ x, u = .v x) → FitL ρ σ l l
  | [], _ => True.intro
  | u :: l, h => ⟨by obtain ⟨x, rfl⟩ := h u (List.mem_cons_self); exact .v x, FitL.refl fun u hu => h u (List.mem_cons_of_mem _ hu)⟩
theorem fitCar {ρ : List Nat} {σ : St} {c c' : Car} (h : c = c') : FitB ρ σ (carB c) (carB c') := by
  subst h
  exact .lit ⟨.v _, .v _, .v _, .v _, .v _, .v _, .v _, .v _, trivial⟩
theorem fitSite {ρ : List Nat} {σ : St} {s s' : Site} (h : s = s') : FitB ρ σ (siteB s) (siteB s') := by
  subst h
  exact .lit ⟨.v _, .v _, .v _, .v _, .v _, .v _, .v _, .v _, .v _, .v _, .v _, .v _, .v _, trivial⟩
end Go.Proofs.Ythdeehkmlaejfaa.E
