/- Loops of which so many rounds are gone through one by one. -/
import Derived.Test.YthdeehkmlaejfaaEngE
namespace Go.Proofs.Ythdeehkmlaejfaa.E
open Go
set_option linter.unusedSimpArgs false
set_option linter.unusedVariables false
/-- The states at a loop's head, with the rounds that may still come. -/
abbrev UnS := Nat × List AV × St
/-- What holds where at most so many rounds come. -/
def Un (nb : Nat) (round : List AV → St → (Ex → List AV → St → Prop) → Option Prop) (K : Ex → List AV → St → Prop) : Nat → UnS → Prop
  | 0, _ => False
  | m + 1, y => (y.1 = m ∧ tr (normF y.2.1 fun f => normL y.2.2 fun σ => round f σ (After nb (Un nb round K m) (fun y => y.2.1) (fun y => y.2.2) (fun y => y.1) y K))) ∨ (y.1 < m ∧ Un nb round K m y)
theorem Un.lt {nb : Nat} {round : List AV → St → (Ex → List AV → St → Prop) → Option Prop} {K : Ex → List AV → St → Prop} : ∀ {m : Nat} {y : UnS}, Un nb round K m y → y.1 < m
  | 0, _, h => h.elim
  | m + 1, y, h => by
    rcases h with ⟨h, _⟩ | ⟨h, _⟩ <;> omega
theorem Un.down {nb : Nat} {round : List AV → St → (Ex → List AV → St → Prop) → Option Prop} {K : Ex → List AV → St → Prop} : ∀ {m n : Nat} {y : UnS}, m ≤ n → y.1 < m → (Un nb round K n y ↔ Un nb round K m y)
  | m, 0, y, h, h' => by omega
  | m, n + 1, y, h, h' => by
    by_cases e : m = n + 1
    · subst e; rfl
    · have ih := Un.down (nb := nb) (round := round) (K := K) (m := m) (n := n) (y := y) (by omega) h'
      rw [← ih]
      constructor
      · rintro (⟨h1, _⟩ | ⟨_, h1⟩)
        · omega
        · exact h1
      · exact fun h1 => .inr ⟨by omega, h1⟩
theorem Un.after {nb : Nat} {round : List AV → St → (Ex → List AV → St → Prop) → Option Prop} {K : Ex → List AV → St → Prop} {m n : Nat} {y : UnS} (h : y.1 ≤ m) (hmn : m ≤ n) :
    After nb (Un nb round K n) (fun y : UnS => y.2.1) (fun y => y.2.2) (fun y => y.1) y K = After nb (Un nb round K m) (fun y => y.2.1) (fun y => y.2.2) (fun y => y.1) y K := by
  funext e f σ
  cases e with
  | normal =>
    refine propext ⟨?_, ?_⟩
    · rintro ⟨z, h1, h2, h3⟩
      exact ⟨z, (Un.down hmn (Nat.lt_of_lt_of_le h2 h)).1 h1, h2, h3⟩
    · rintro ⟨z, h1, h2, h3⟩
      exact ⟨z, (Un.down hmn (Nat.lt_of_lt_of_le h2 h)).2 h1, h2, h3⟩
  | _ => rfl
theorem Un.step {nb : Nat} {round : List AV → St → (Ex → List AV → St → Prop) → Option Prop} {K : Ex → List AV → St → Prop} : ∀ {m : Nat} {y : UnS}, Un nb round K m y → tr (normF y.2.1 fun f => normL y.2.2 fun σ => round f σ (After nb (Un nb round K m) (fun y : UnS => y.2.1) (fun y => y.2.2) (fun y => y.1) y K))
  | 0, _, h => h.elim
  | m + 1, y, h => by
    rcases h with ⟨h1, h2⟩ | ⟨h1, h2⟩
    · rw [Un.after (Nat.le_of_eq h1) (Nat.le_succ m)]
      exact h2
    · have h3 := Un.step h2
      rw [Un.after (Nat.le_of_lt h1) (Nat.le_succ m)]
      exact h3
/-- A loop of at most m + 1 heads. -/
theorem loopUn {nb : Nat} {round : List AV → St → (Ex → List AV → St → Prop) → Option Prop} {K : Ex → List AV → St → Prop} {f : List AV} {σ : St} (m : Nat) (h : tr (normF f fun f' => normL σ fun σ' => round f' σ' (After nb (Un nb round K m) (fun y : UnS => y.2.1) (fun y => y.2.2) (fun y => y.1) (m, f, σ) K))) : tr (some (LoopP nb round f σ K)) :=
  ⟨UnS, Un nb round K (m + 1), fun y => y.2.1, fun y => y.2.2, fun y => y.1, (m, f, σ), .inl ⟨rfl, h⟩, .refl, fun x hx => Un.step hx⟩
/-- Its next head. -/
theorem nextUn {nb : Nat} {round : List AV → St → (Ex → List AV → St → Prop) → Option Prop} {K : Ex → List AV → St → Prop} {f : List AV} {σ : St} {m : Nat} {f0 : List AV} {σ0 : St} (h : tr (normF f fun f' => normL σ fun σ' => round f' σ' (After nb (Un nb round K m) (fun y : UnS => y.2.1) (fun y => y.2.2) (fun y => y.1) (m, f, σ) K))) :
    tr (some (After nb (Un nb round K (m + 1)) (fun y : UnS => y.2.1) (fun y => y.2.2) (fun y => y.1) (m + 1, f0, σ0) K .normal f σ)) :=
  ⟨(m, f, σ), .inl ⟨rfl, h⟩, Nat.lt_succ_self m, .refl⟩
end Go.Proofs.Ythdeehkmlaejfaa.E
