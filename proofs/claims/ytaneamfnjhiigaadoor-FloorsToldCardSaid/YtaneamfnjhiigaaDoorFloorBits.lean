/- Sets of floors: which floors they have. -/
import Derived.Laws.BitsLemmas
namespace Go.Proofs.YtaneamfnjhiigaaDoor.E
open Go
set_option linter.unusedVariables false
set_option linter.unusedSimpArgs false
def bitF (f : Int) : Int := IntKind.u64.wrap (1 * 2 ^ min f.toNat 64)
def bitS (f : Int) : Int := cond (decide (f < 0)) 0 (cond (decide (64 ≤ f)) 0 (bitF f))
def hasF (b f : Int) : Bool := !(decide (bits .and .u64 b (bitS f) = 0))
def withF (b f : Int) : Int := bits .or .u64 b (bitS f)
def woutF (b f : Int) : Int := bits .andNot .u64 b (bitS f)
theorem wrapU (n : Int) : IntKind.u64.wrap n = n % 18446744073709551616 := by simp [IntKind.wrap, IntKind.bits, IntKind.signed]
theorem ofU (x : BitVec 64) : BitVec.ofInt 64 (IntKind.u64.wrap (x.toNat : Int)) = x := by
  have h := x.isLt
  rw [wrapU, Int.emod_eq_of_lt (by omega) (by omega)]
  apply BitVec.eq_of_toNat_eq
  rw [BitVec.toNat_ofInt]
  omega
theorem bitS_ofInt {f : Int} (h0 : 0 ≤ f) (h1 : f < 64) : BitVec.ofInt 64 (bitS f) = BitVec.twoPow 64 f.toNat := by
  have hp : (2 : Int) ^ f.toNat = ((2 ^ f.toNat : Nat) : Int) := by simp
  have hlt : 2 ^ f.toNat < 2 ^ 64 := Nat.pow_lt_pow_right (by decide) (by omega)
  have hm : min f.toNat 64 = f.toNat := Nat.min_eq_left (by omega)
  have d1 := decide_eq_false (by omega : ¬ f < 0)
  have d2 := decide_eq_false (by omega : ¬ 64 ≤ f)
  have key : bitS f = ((2 ^ f.toNat : Nat) : Int) % 18446744073709551616 := by
    unfold bitS bitF
    rw [d1, d2, hm, Int.one_mul, hp]
    exact wrapU _
  apply BitVec.eq_of_toNat_eq
  rw [key, BitVec.toNat_ofInt, BitVec.toNat_twoPow]
  generalize 2 ^ f.toNat = N at hlt ⊢
  omega
theorem hasF_eq {b f : Int} (h0 : 0 ≤ f) (h1 : f < 64) : hasF b f = (BitVec.ofInt 64 b).getLsbD f.toNat := by
  have hd : bits .and .u64 b (bitS f) = IntKind.u64.wrap ((BitVec.ofInt 64 b &&& BitVec.ofInt 64 (bitS f)).toNat : Int) := rfl
  have hl := (BitVec.ofInt 64 b &&& BitVec.ofInt 64 (bitS f)).isLt
  unfold hasF
  rw [hd, wrapU, Int.emod_eq_of_lt (by omega) (by omega), bitS_ofInt h0 h1, BitVec.and_twoPow]
  cases (BitVec.ofInt 64 b).getLsbD f.toNat with
  | true =>
    simp only [if_true, BitVec.toNat_twoPow]
    have hlt : 2 ^ f.toNat < 2 ^ 64 := Nat.pow_lt_pow_right (by decide) (by omega)
    have hpos : 0 < 2 ^ f.toNat := Nat.pow_pos (by decide)
    rw [Nat.mod_eq_of_lt hlt]
    generalize 2 ^ f.toNat = N at hlt hpos ⊢
    rw [decide_eq_false (by omega)]; rfl
  | false => simp
theorem has_with {b f g : Int} (f0 : 0 ≤ f) (f1 : f < 64) (g0 : 0 ≤ g) (g1 : g < 64) : hasF (withF b f) g = (hasF b g || decide (f = g)) := by
  have hd : withF b f = IntKind.u64.wrap ((BitVec.ofInt 64 b ||| BitVec.ofInt 64 (bitS f)).toNat : Int) := rfl
  rw [hasF_eq g0 g1, hasF_eq g0 g1, hd, ofU, BitVec.getLsbD_or, bitS_ofInt f0 f1, BitVec.getLsbD_twoPow]
  congr 1
  by_cases h : f = g
  · subst h; simp; omega
  · simp only [h, decide_false]
    simp
    intro _
    omega
theorem has_wout {b f g : Int} (f0 : 0 ≤ f) (f1 : f < 64) (g0 : 0 ≤ g) (g1 : g < 64) : hasF (woutF b f) g = (hasF b g && !(decide (f = g))) := by
  have hd : woutF b f = IntKind.u64.wrap ((BitVec.ofInt 64 b &&& ~~~ BitVec.ofInt 64 (bitS f)).toNat : Int) := rfl
  rw [hasF_eq g0 g1, hasF_eq g0 g1, hd, ofU, BitVec.getLsbD_and, BitVec.getLsbD_not, bitS_ofInt f0 f1, BitVec.getLsbD_twoPow]
  congr 1
  have hg : g.toNat < 64 := by omega
  by_cases h : f = g
  · subst h; simp [hg]
  · simp only [h, decide_false, hg, decide_true, Bool.true_and]
    simp
    omega
theorem has_zero (f : Int) : hasF 0 f = false := by
  have hd : bits .and .u64 0 (bitS f) = IntKind.u64.wrap ((BitVec.ofInt 64 0 &&& BitVec.ofInt 64 (bitS f)).toNat : Int) := rfl
  unfold hasF
  rw [hd]
  simp [wrapU]
theorem has_out {b f : Int} (h : f < 0 ∨ 64 ≤ f) : hasF b f = false := by
  have e : bitS f = 0 := by
    unfold bitS
    rcases h with h | h
    · rw [decide_eq_true h]; rfl
    · rw [decide_eq_true h, decide_eq_false (by omega : ¬ f < 0)]; rfl
  have hd : bits .and .u64 b 0 = IntKind.u64.wrap ((BitVec.ofInt 64 b &&& BitVec.ofInt 64 0).toNat : Int) := rfl
  unfold hasF
  rw [e, hd]
  simp [wrapU]
end Go.Proofs.YtaneamfnjhiigaaDoor.E
