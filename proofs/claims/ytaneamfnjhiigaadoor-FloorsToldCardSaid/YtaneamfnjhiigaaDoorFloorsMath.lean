/- The lowest floor of a set, by its bits. -/
import Derived.Test.YtaneamfnjhiigaaDoorFloorBits
namespace Go.Proofs.YtaneamfnjhiigaaDoor.E
open Go
set_option linter.unusedVariables false
set_option linter.unusedSimpArgs false
def lowI (b : Int) : Nat := ((List.range 64).find? fun i => (BitVec.ofInt 64 b).getLsbD i).getD 64
theorem low_spec {b : Int} (h : BitVec.ofInt 64 b ≠ 0#64) : lowI b < 64 ∧ (BitVec.ofInt 64 b).getLsbD (lowI b) = true ∧ ∀ j, j < lowI b → (BitVec.ofInt 64 b).getLsbD j = false := by
  unfold lowI
  cases hf : (List.range 64).find? fun i => (BitVec.ofInt 64 b).getLsbD i with
  | some i =>
    obtain ⟨h1, h2, h3⟩ := List.find?_range_eq_some.1 hf
    exact ⟨List.mem_range.1 h2, h1, fun j hj => by simpa using h3 j hj⟩
  | none =>
    exfalso
    refine h (BitVec.eq_of_getLsbD_eq fun i hi => ?_)
    have := List.find?_eq_none.1 hf i (List.mem_range.2 hi)
    simpa using this
theorem ofI_wrap (n : Int) : BitVec.ofInt 64 (IntKind.u64.wrap n) = BitVec.ofInt 64 n := by
  apply BitVec.eq_of_toNat_eq
  rw [wrapU, BitVec.toNat_ofInt, BitVec.toNat_ofInt]
  omega
theorem neg_low {x : BitVec 64} {k : Nat} (h1 : x.getLsbD k = true) (h0 : ∀ j, j < k → x.getLsbD j = false) (i : Nat) (hi : i < 64) : (-x).getLsbD i = (decide (i = k) || (decide (k < i) && !x.getLsbD i)) := by
  rw [BitVec.getLsbD_neg]
  rcases Nat.lt_trichotomy i k with h | h | h
  · have he : ¬ ∃ j, j < i ∧ x.getLsbD j = true := fun ⟨j, hj, e⟩ => by rw [h0 j (by omega)] at e; cases e
    rw [decide_eq_false he, h0 i h, decide_eq_false (by omega : ¬ i = k), decide_eq_false (by omega : ¬ k < i)]
    simp
  · subst h
    have he : ¬ ∃ j, j < i ∧ x.getLsbD j = true := fun ⟨j, hj, e⟩ => by rw [h0 j hj] at e; cases e
    rw [decide_eq_false he, h1]
    simp
  · have he : ∃ j, j < i ∧ x.getLsbD j = true := ⟨k, h, h1⟩
    rw [decide_eq_true he, decide_eq_true hi, decide_eq_false (by omega : ¬ i = k), decide_eq_true h]
    simp
theorem and_neg {x : BitVec 64} {k : Nat} (hk : k < 64) (h1 : x.getLsbD k = true) (h0 : ∀ j, j < k → x.getLsbD j = false) : x &&& -x = BitVec.twoPow 64 k := by
  refine BitVec.eq_of_getLsbD_eq fun i hi => ?_
  rw [BitVec.getLsbD_and, neg_low h1 h0 i hi, BitVec.getLsbD_twoPow, decide_eq_true hk]
  rcases Nat.lt_trichotomy i k with h | h | h
  · rw [h0 i h, decide_eq_false (by omega : ¬ k = i)]; simp
  · subst h; rw [h1]; simp
  · rw [decide_eq_false (by omega : ¬ i = k), decide_eq_false (by omega : ¬ k = i)]
    cases x.getLsbD i <;> simp
theorem and_pred {x : BitVec 64} {k : Nat} (h1 : x.getLsbD k = true) (h0 : ∀ j, j < k → x.getLsbD j = false) (i : Nat) (hi : i < 64) : (x &&& (x - 1#64)).getLsbD i = (x.getLsbD i && !(decide (i = k))) := by
  rw [BitVec.getLsbD_and, ← BitVec.not_neg, BitVec.getLsbD_not, neg_low h1 h0 i hi, decide_eq_true hi]
  rcases Nat.lt_trichotomy i k with h | h | h
  · rw [h0 i h]; simp
  · subst h; simp
  · rw [decide_eq_false (by omega : ¬ i = k), decide_eq_true h]
    cases x.getLsbD i <;> simp
/-- The power of 2 that is left of a set and its negative. -/
theorem tz_and {b : Int} (h : BitVec.ofInt 64 b ≠ 0#64) : bits .and .u64 b (IntKind.u64.wrap (0 - b)) = ((2 ^ lowI b : Nat) : Int) := by
  obtain ⟨hk, h1, h0⟩ := low_spec h
  have hd : bits .and .u64 b (IntKind.u64.wrap (0 - b)) = IntKind.u64.wrap ((BitVec.ofInt 64 b &&& BitVec.ofInt 64 (IntKind.u64.wrap (0 - b))).toNat : Int) := rfl
  have hn : BitVec.ofInt 64 (IntKind.u64.wrap (0 - b)) = -BitVec.ofInt 64 b := by rw [ofI_wrap, Int.zero_sub, BitVec.ofInt_neg]
  have hlt : 2 ^ lowI b < 2 ^ 64 := Nat.pow_lt_pow_right (by decide) hk
  rw [hd, hn, and_neg hk h1 h0, BitVec.toNat_twoPow, Nat.mod_eq_of_lt hlt, wrapU]
  generalize 2 ^ lowI b = N at hlt ⊢
  omega
def deB : List Nat := [0, 1, 56, 2, 57, 49, 28, 3, 61, 58, 42, 50, 38, 29, 17, 4, 62, 47, 59, 36, 45, 43, 51, 22, 53, 39, 33, 30, 24, 18, 12, 5, 63, 55, 48, 27, 60, 41, 37, 16, 46, 35, 44, 21, 52, 32, 23, 11, 54, 26, 40, 15, 34, 20, 31, 10, 25, 14, 19, 9, 13, 8, 7, 6]
theorem deB_all : ∀ k : Fin 64, 2 ^ k.val * 285870213051353865 % 18446744073709551616 / 288230376151711744 < 64 ∧ deB.getD (2 ^ k.val * 285870213051353865 % 18446744073709551616 / 288230376151711744) 0 = k.val := by decide
theorem tz_idx {k : Nat} (hk : k < 64) : (IntKind.u64.wrap (((2 ^ k : Nat) : Int) * 285870213051353865)).fdiv (2 ^ min (58 : Int).toNat IntKind.u64.bits) = ((2 ^ k * 285870213051353865 % 18446744073709551616 / 288230376151711744 : Nat) : Int) := by
  have e : (2 : Int) ^ min (58 : Int).toNat IntKind.u64.bits = 288230376151711744 := by decide
  rw [e, wrapU, Int.fdiv_eq_ediv_of_nonneg _ (by decide)]
  generalize 2 ^ k = N
  omega
/-- So many bits. -/
def lenI (x : Int) : Int := if x = 0 then 0 else (x.toNat.log2 : Int) + 1
theorem lenI_shr {x : Int} (s : Nat) (h : ((2 ^ s : Nat) : Int) ≤ x) : lenI x = s + lenI (x / ((2 ^ s : Nat) : Int)) := by
  have hp : 0 < 2 ^ s := Nat.pow_pos (by decide)
  obtain ⟨n, rfl⟩ : ∃ n : Nat, x = (n : Int) := ⟨x.toNat, by omega⟩
  have hn : 2 ^ s ≤ n := by omega
  have hm : 1 ≤ n / 2 ^ s := (Nat.one_le_div_iff hp).2 hn
  rw [← Int.natCast_ediv]
  have key : n.log2 = s + (n / 2 ^ s).log2 := by
    rw [Nat.log2_eq_iff (by omega)]
    have h1 := Nat.log2_self_le (n := n / 2 ^ s) (by omega)
    have h2 := Nat.lt_log2_self (n := n / 2 ^ s)
    have h1' := (Nat.le_div_iff_mul_le hp).1 h1
    have h2' := (Nat.div_lt_iff_lt_mul hp).1 h2
    rw [← Nat.pow_add] at h1' h2'
    exact ⟨by rw [Nat.add_comm]; exact h1', by rw [show s + (n / 2 ^ s).log2 + 1 = (n / 2 ^ s).log2 + 1 + s by omega]; exact h2'⟩
  unfold lenI
  rw [if_neg (by omega), if_neg (by omega), Int.toNat_natCast, Int.toNat_natCast, key]
  omega
end Go.Proofs.YtaneamfnjhiigaaDoor.E
