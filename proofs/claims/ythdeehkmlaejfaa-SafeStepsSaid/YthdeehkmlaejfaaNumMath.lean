/- Plain mathematics of numbers within the limit: the high and low word of a product, and what 'within' gives. -/
import Derived.RowKit
import Derived.Laws.BitsLemmas
namespace Go.Proofs.Ythdeehkmlaejfaa.NumMath
open Go.RowKit

/-- A number within the limit. -/
def lim (a : Int) : Int := if a > 1099511627776 then 1099511627776 else if a < -1099511627776 then -1099511627776 else a

theorem lim_ge (a : Int) : -1099511627776 ≤ lim a := by unfold lim; split <;> (try split) <;> omega
theorem lim_le (a : Int) : lim a ≤ 1099511627776 := by unfold lim; split <;> (try split) <;> omega
theorem lim_id {a : Int} (h : -1099511627776 ≤ a) (h' : a ≤ 1099511627776) : lim a = a := by unfold lim; rw [if_neg (by omega), if_neg (by omega)]
theorem lim_lim (a : Int) : lim (lim a) = lim a := lim_id (lim_ge a) (lim_le a)
theorem lim_mono {a b : Int} (h : a ≤ b) : lim a ≤ lim b := by unfold lim; split <;> split <;> (try split) <;> (try split) <;> omega
theorem lim_neg (a : Int) : lim (-a) = -lim a := by unfold lim; split <;> split <;> (try split) <;> (try split) <;> omega

theorem u64_wrap (n : Int) : IntKind.u64.wrap n = n % 18446744073709551616 := by simp [IntKind.wrap, IntKind.bits, IntKind.signed]
theorem wraps_u64 (n : Int) (h₀ : 0 ≤ n) (h₁ : n < 2 ^ 64) : IntKind.u64.wrap n = n := by rw [u64_wrap]; omega
theorem mask32 {x : Int} (h₀ : 0 ≤ x) (h₁ : x < 18446744073709551616) : Go.bits .and .u64 x 4294967295 = x % 4294967296 :=
  bits_mask .u64 64 (by decide) wraps_u64 32 (by decide) x h₀ (by omega)

theorem mul_bd {a b A B : Int} (ha0 : 0 ≤ a) (hb0 : 0 ≤ b) (ha : a ≤ A) (hb : b ≤ B) : 0 ≤ a * b ∧ a * b ≤ A * B :=
  ⟨Int.mul_nonneg ha0 hb0, Int.le_trans (Int.mul_le_mul_of_nonneg_right ha hb0) (Int.mul_le_mul_of_nonneg_left hb (by omega))⟩

theorem parts (a b : Int) : a * b = (a / 4294967296) * (b / 4294967296) * 18446744073709551616
    + ((a / 4294967296) * (b % 4294967296) + (a % 4294967296) * (b / 4294967296)) * 4294967296 + (a % 4294967296) * (b % 4294967296) := by
  have e1 := Int.mul_ediv_add_emod a 4294967296
  have e2 := Int.mul_ediv_add_emod b 4294967296
  generalize a / 4294967296 = p at *
  generalize a % 4294967296 = q at *
  generalize b / 4294967296 = r at *
  generalize b % 4294967296 = s at *
  subst e1 e2
  simp only [Int.add_mul, Int.mul_add]
  have h1 : 4294967296 * p * (4294967296 * r) = p * r * 18446744073709551616 := by grind
  have h2 : 4294967296 * p * s = p * s * 4294967296 := by rw [Int.mul_assoc]; omega
  have h3 : q * (4294967296 * r) = q * r * 4294967296 := by rw [Int.mul_left_comm]; omega
  omega

theorem high_word {a b : Int} (ha0 : 0 ≤ a) (ha : a < 18446744073709551616) (hb0 : 0 ≤ b) (hb : b < 18446744073709551616) :
    IntKind.u64.wrap ((IntKind.u64.wrap ((IntKind.u64.wrap ((a / 4294967296) * (b / 4294967296))) + ((IntKind.u64.wrap ((IntKind.u64.wrap ((a / 4294967296) * (Go.bits .and .u64 b 4294967295))) + ((IntKind.u64.wrap ((Go.bits .and .u64 a 4294967295) * (Go.bits .and .u64 b 4294967295))) / 4294967296))) / 4294967296))) + ((IntKind.u64.wrap ((Go.bits .and .u64 (IntKind.u64.wrap ((IntKind.u64.wrap ((a / 4294967296) * (Go.bits .and .u64 b 4294967295))) + ((IntKind.u64.wrap ((Go.bits .and .u64 a 4294967295) * (Go.bits .and .u64 b 4294967295))) / 4294967296))) 4294967295) + (IntKind.u64.wrap ((Go.bits .and .u64 a 4294967295) * (b / 4294967296))))) / 4294967296))
    = a * b / 18446744073709551616 := by
  rw [mask32 ha0 ha, mask32 hb0 hb]
  have e := parts a b
  have b1 := mul_bd (a := a / 4294967296) (b := b / 4294967296) (A := 4294967295) (B := 4294967295) (by omega) (by omega) (by omega) (by omega)
  have b2 := mul_bd (a := a / 4294967296) (b := b % 4294967296) (A := 4294967295) (B := 4294967295) (by omega) (by omega) (by omega) (by omega)
  have b3 := mul_bd (a := a % 4294967296) (b := b / 4294967296) (A := 4294967295) (B := 4294967295) (by omega) (by omega) (by omega) (by omega)
  have b4 := mul_bd (a := a % 4294967296) (b := b % 4294967296) (A := 4294967295) (B := 4294967295) (by omega) (by omega) (by omega) (by omega)
  have bz := mul_bd (a := a) (b := b) (A := 18446744073709551615) (B := 18446744073709551615) (by omega) (by omega) (by omega) (by omega)
  generalize (a / 4294967296) * (b / 4294967296) = P at *
  generalize (a / 4294967296) * (b % 4294967296) = Q at *
  generalize (a % 4294967296) * (b / 4294967296) = R at *
  generalize (a % 4294967296) * (b % 4294967296) = S at *
  generalize a * b = Z at *
  simp only [u64_wrap]
  rw [Int.emod_eq_of_lt (a := P) (by omega) (by omega), Int.emod_eq_of_lt (a := Q) (by omega) (by omega), Int.emod_eq_of_lt (a := R) (by omega) (by omega), Int.emod_eq_of_lt (a := S) (by omega) (by omega)]
  rw [Int.emod_eq_of_lt (a := Q + S / 4294967296) (by omega) (by omega)]
  rw [mask32 (by omega) (by omega)]
  rw [Int.emod_eq_of_lt (a := P + (Q + S / 4294967296) / 4294967296) (by omega) (by omega)]
  rw [Int.emod_eq_of_lt (a := (Q + S / 4294967296) % 4294967296 + R) (by omega) (by omega)]
  rw [Int.emod_eq_of_lt (by omega) (by omega)]
  omega
end Go.Proofs.Ythdeehkmlaejfaa.NumMath
