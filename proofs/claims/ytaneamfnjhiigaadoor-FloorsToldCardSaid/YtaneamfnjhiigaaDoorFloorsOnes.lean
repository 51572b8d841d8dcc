/- How many bits a number has, by sums within its bytes. -/
import Derived.Test.YtaneamfnjhiigaaDoorFloorBits
namespace Go.Proofs.YtaneamfnjhiigaaDoor.E
open Go
set_option linter.unusedVariables false
set_option linter.unusedSimpArgs false
/-- A mask of n bytes. -/
def msk (c : Nat) : Nat → Nat
  | 0 => 0
  | n + 1 => c + 256 * msk c n
def pc8 (b : Nat) : Nat := b % 2 + b / 2 % 2 + b / 4 % 2 + b / 8 % 2 + b / 16 % 2 + b / 32 % 2 + b / 64 % 2 + b / 128 % 2
theorem and_byte (a c m : Nat) (hc : c < 256) : a &&& (c + 256 * m) = (a % 256 &&& c) + 256 * (a / 256 &&& m) := by
  have h1 : (a &&& (c + 256 * m)) % 2 ^ 8 = a % 2 ^ 8 &&& (c + 256 * m) % 2 ^ 8 := Nat.and_mod_two_pow
  have h2 : (a &&& (c + 256 * m)) / 2 ^ 8 = a / 2 ^ 8 &&& (c + 256 * m) / 2 ^ 8 := Nat.and_div_two_pow
  rw [show (2 : Nat) ^ 8 = 256 from rfl] at h1 h2
  rw [show (c + 256 * m) % 256 = c by omega] at h1
  rw [show (c + 256 * m) / 256 = m by omega] at h2
  have := Nat.div_add_mod (a &&& (c + 256 * m)) 256
  omega
def o1 (m x : Nat) : Nat := (x / 2 &&& m) + (x &&& m)
def o2 (m x : Nat) : Nat := (x / 4 &&& m) + (x &&& m)
def o3 (m x : Nat) : Nat := (x / 16 + x) &&& m
theorem b1 : ∀ (b : Fin 256) (c : Fin 2), (b.val / 2 + 128 * c.val) &&& 85 = b.val / 2 &&& 85 := by decide +kernel
theorem b2 : ∀ (b : Fin 256) (c : Fin 4), (b.val / 4 + 64 * c.val) &&& 51 = b.val / 4 &&& 51 := by decide +kernel
theorem b3 : ∀ (b : Fin 128) (c : Fin 5), (b.val / 16 + b.val + 16 * c.val) &&& 15 = (b.val / 16 + b.val) &&& 15 := by decide +kernel
theorem c1 : ∀ b : Fin 256, (b.val / 2 &&& 85) + (b.val &&& 85) < 256 := by decide +kernel
theorem c2 : ∀ b : Fin 256, (o1 85 b.val / 4 &&& 51) + (o1 85 b.val &&& 51) ≤ 68 ∧ ((o1 85 b.val / 4 &&& 51) + (o1 85 b.val &&& 51)) % 16 ≤ 4 := by decide +kernel
theorem c3 : ∀ b : Fin 256, o3 15 (o2 51 (o1 85 b.val)) = pc8 b.val := by decide +kernel
theorem o1_byte (n x : Nat) : o1 (msk 85 (n + 1)) x = o1 85 (x % 256) + 256 * o1 (msk 85 n) (x / 256) := by
  unfold o1
  rw [msk, and_byte _ _ _ (by decide), and_byte _ _ _ (by decide)]
  have h := b1 ⟨x % 256, by omega⟩ ⟨x / 256 % 2, by omega⟩
  simp only at h
  rw [show x % 256 / 2 + 128 * (x / 256 % 2) = x / 2 % 256 by omega] at h
  rw [h, show x / 2 / 256 = x / 256 / 2 by omega]
  omega
theorem o2_byte (n y : Nat) : o2 (msk 51 (n + 1)) y = o2 51 (y % 256) + 256 * o2 (msk 51 n) (y / 256) := by
  unfold o2
  rw [msk, and_byte _ _ _ (by decide), and_byte _ _ _ (by decide)]
  have h := b2 ⟨y % 256, by omega⟩ ⟨y / 256 % 4, by omega⟩
  simp only at h
  rw [show y % 256 / 4 + 64 * (y / 256 % 4) = y / 4 % 256 by omega] at h
  rw [h, show y / 4 / 256 = y / 256 / 4 by omega]
  omega
theorem o3_byte (n z : Nat) (h0 : z % 256 ≤ 68) (h1 : z / 256 % 16 ≤ 4) : o3 (msk 15 (n + 1)) z = o3 15 (z % 256) + 256 * o3 (msk 15 n) (z / 256) := by
  unfold o3
  rw [msk, and_byte _ _ _ (by decide)]
  have h := b3 ⟨z % 256, by omega⟩ ⟨z / 256 % 16, by omega⟩
  simp only at h
  rw [show z % 256 / 16 + z % 256 + 16 * (z / 256 % 16) = (z / 16 + z) % 256 by omega] at h
  rw [h, show (z / 16 + z) / 256 = z / 256 / 16 + z / 256 by omega]
/-- The bytes' sums. -/
def sums : Nat → Nat → Nat
  | 0, _ => 0
  | n + 1, x => pc8 (x % 256) + 256 * sums n (x / 256)
theorem low_of (n x : Nat) : o2 (msk 51 n) (o1 (msk 85 n) x) % 16 ≤ 4 := by
  cases n with
  | zero => simp [o2, o1, msk]
  | succ n =>
    have h1 := c1 ⟨x % 256, by omega⟩
    simp only at h1
    rw [o1_byte, o2_byte]
    have e1 : (o1 85 (x % 256) + 256 * o1 (msk 85 n) (x / 256)) % 256 = o1 85 (x % 256) := by have h1' : o1 85 (x % 256) < 256 := h1; omega
    have h2 := (c2 ⟨x % 256, by omega⟩).2
    simp only at h2
    rw [e1]
    unfold o2
    omega
theorem o_all : ∀ n x : Nat, o3 (msk 15 n) (o2 (msk 51 n) (o1 (msk 85 n) x)) = sums n x := by
  intro n
  induction n with
  | zero => intro x; simp [o3, msk, sums]
  | succ n ih =>
    intro x
    have h1 := c1 ⟨x % 256, by omega⟩
    have h2 := (c2 ⟨x % 256, by omega⟩).1
    have h3 := c3 ⟨x % 256, by omega⟩
    simp only at h1 h2 h3
    have hl := low_of n (x / 256)
    rw [o1_byte, o2_byte]
    have e1 : (o1 85 (x % 256) + 256 * o1 (msk 85 n) (x / 256)) % 256 = o1 85 (x % 256) := by have h1' : o1 85 (x % 256) < 256 := h1; omega
    have e2 : (o1 85 (x % 256) + 256 * o1 (msk 85 n) (x / 256)) / 256 = o1 (msk 85 n) (x / 256) := by have h1' : o1 85 (x % 256) < 256 := h1; omega
    rw [e1, e2]
    have k1 : o2 51 (o1 85 (x % 256)) ≤ 68 := h2
    have e3 : (o2 51 (o1 85 (x % 256)) + 256 * o2 (msk 51 n) (o1 (msk 85 n) (x / 256))) % 256 = o2 51 (o1 85 (x % 256)) := by omega
    have e4 : (o2 51 (o1 85 (x % 256)) + 256 * o2 (msk 51 n) (o1 (msk 85 n) (x / 256))) / 256 = o2 (msk 51 n) (o1 (msk 85 n) (x / 256)) := by omega
    rw [o3_byte _ _ (by omega) (by rw [e4]; exact hl), e3, e4, h3, ih]
    rfl
theorem pc8_le (b : Nat) : pc8 b ≤ 8 := by unfold pc8; omega
/-- Bits one by one. -/
def cntB : Nat → Nat → Nat
  | 0, _ => 0
  | n + 1, x => x % 2 + cntB n (x / 2)
theorem cntB_byte (n x : Nat) : cntB (n + 8) x = pc8 (x % 256) + cntB n (x / 256) := by
  simp only [cntB, pc8, Nat.div_div_eq_div_mul]
  rw [show 2 * 2 * 2 * 2 * 2 * 2 * 2 * 2 = 256 from rfl]
  omega
theorem fin8 {a0 a1 a2 a3 a4 a5 a6 a7 S : Nat} (p0 : a0 ≤ 8) (p1 : a1 ≤ 8) (p2 : a2 ≤ 8) (p3 : a3 ≤ 8) (p4 : a4 ≤ 8) (p5 : a5 ≤ 8) (p6 : a6 ≤ 8) (p7 : a7 ≤ 8)
    (hS : S = a0 + 256 * a1 + 65536 * a2 + 16777216 * a3 + 4294967296 * a4 + 1099511627776 * a5 + 281474976710656 * a6 + 72057594037927936 * a7) :
    S + S / 256 < 18446744073709551616 ∧ S + S / 256 + (S + S / 256) / 65536 < 18446744073709551616 ∧ S + S / 256 + (S + S / 256) / 65536 + (S + S / 256 + (S + S / 256) / 65536) / 4294967296 < 18446744073709551616 ∧
    (S + S / 256 + (S + S / 256) / 65536 + (S + S / 256 + (S + S / 256) / 65536) / 4294967296) % 128 = a0 + a1 + a2 + a3 + a4 + a5 + a6 + a7 := by
  have h1 : S / 256 = a1 + 256 * a2 + 65536 * a3 + 16777216 * a4 + 4294967296 * a5 + 1099511627776 * a6 + 281474976710656 * a7 := by omega
  rw [h1]
  obtain ⟨T, hT⟩ : ∃ T, T = S + (a1 + 256 * a2 + 65536 * a3 + 16777216 * a4 + 4294967296 * a5 + 1099511627776 * a6 + 281474976710656 * a7) := ⟨_, rfl⟩
  rw [← hT]
  have hT' : T = (a0 + a1) + 256 * (a1 + a2) + 65536 * (a2 + a3) + 16777216 * (a3 + a4) + 4294967296 * (a4 + a5) + 1099511627776 * (a5 + a6) + 281474976710656 * (a6 + a7) + 72057594037927936 * a7 := by omega
  have h2 : T / 65536 = (a2 + a3) + 256 * (a3 + a4) + 65536 * (a4 + a5) + 16777216 * (a5 + a6) + 4294967296 * (a6 + a7) + 1099511627776 * a7 := by omega
  rw [h2]
  obtain ⟨U, hU⟩ : ∃ U, U = T + ((a2 + a3) + 256 * (a3 + a4) + 65536 * (a4 + a5) + 16777216 * (a5 + a6) + 4294967296 * (a6 + a7) + 1099511627776 * a7) := ⟨_, rfl⟩
  rw [← hU]
  have hU' : U = (a0 + a1 + a2 + a3) + 256 * (a1 + a2 + a3 + a4) + 65536 * (a2 + a3 + a4 + a5) + 16777216 * (a3 + a4 + a5 + a6) + 4294967296 * (a4 + a5 + a6 + a7) + 1099511627776 * (a5 + a6 + a7) + 281474976710656 * (a6 + a7) + 72057594037927936 * a7 := by omega
  have h3 : U / 4294967296 = (a4 + a5 + a6 + a7) + 256 * (a5 + a6 + a7) + 65536 * (a6 + a7) + 16777216 * a7 := by omega
  rw [h3]
  clear h1 h2 h3 hS hT hU
  subst hU'
  subst hT'
  refine ⟨by omega, by omega, by omega, by omega⟩
theorem sums_end (x : Nat) : sums 8 x + sums 8 x / 256 < 18446744073709551616 ∧ sums 8 x + sums 8 x / 256 + (sums 8 x + sums 8 x / 256) / 65536 < 18446744073709551616 ∧ sums 8 x + sums 8 x / 256 + (sums 8 x + sums 8 x / 256) / 65536 + (sums 8 x + sums 8 x / 256 + (sums 8 x + sums 8 x / 256) / 65536) / 4294967296 < 18446744073709551616 ∧
    (sums 8 x + sums 8 x / 256 + (sums 8 x + sums 8 x / 256) / 65536 + (sums 8 x + sums 8 x / 256 + (sums 8 x + sums 8 x / 256) / 65536) / 4294967296) % 128 = cntB 64 x := by
  have e : cntB 64 x = pc8 (x % 256) + (pc8 (x / 256 % 256) + (pc8 (x / 256 / 256 % 256) + (pc8 (x / 256 / 256 / 256 % 256) + (pc8 (x / 256 / 256 / 256 / 256 % 256) + (pc8 (x / 256 / 256 / 256 / 256 / 256 % 256) + (pc8 (x / 256 / 256 / 256 / 256 / 256 / 256 % 256) + (pc8 (x / 256 / 256 / 256 / 256 / 256 / 256 / 256 % 256) + 0))))))) := by
    rw [cntB_byte 56, cntB_byte 48, cntB_byte 40, cntB_byte 32, cntB_byte 24, cntB_byte 16, cntB_byte 8, cntB_byte 0]
    rfl
  have es : sums 8 x = pc8 (x % 256) + 256 * (pc8 (x / 256 % 256) + 256 * (pc8 (x / 256 / 256 % 256) + 256 * (pc8 (x / 256 / 256 / 256 % 256) + 256 * (pc8 (x / 256 / 256 / 256 / 256 % 256) + 256 * (pc8 (x / 256 / 256 / 256 / 256 / 256 % 256) + 256 * (pc8 (x / 256 / 256 / 256 / 256 / 256 / 256 % 256) + 256 * (pc8 (x / 256 / 256 / 256 / 256 / 256 / 256 / 256 % 256) + 256 * 0))))))) := rfl
  have p := pc8_le
  obtain ⟨h1, h2, h3, h4⟩ := fin8 (S := sums 8 x) (p (x % 256)) (p (x / 256 % 256)) (p (x / 256 / 256 % 256)) (p (x / 256 / 256 / 256 % 256)) (p (x / 256 / 256 / 256 / 256 % 256)) (p (x / 256 / 256 / 256 / 256 / 256 % 256)) (p (x / 256 / 256 / 256 / 256 / 256 / 256 % 256)) (p (x / 256 / 256 / 256 / 256 / 256 / 256 / 256 % 256)) (by
    rw [es]
    generalize pc8 (x % 256) = a0
    generalize pc8 (x / 256 % 256) = a1
    generalize pc8 (x / 256 / 256 % 256) = a2
    generalize pc8 (x / 256 / 256 / 256 % 256) = a3
    generalize pc8 (x / 256 / 256 / 256 / 256 % 256) = a4
    generalize pc8 (x / 256 / 256 / 256 / 256 / 256 % 256) = a5
    generalize pc8 (x / 256 / 256 / 256 / 256 / 256 / 256 % 256) = a6
    generalize pc8 (x / 256 / 256 / 256 / 256 / 256 / 256 / 256 % 256) = a7
    omega)
  refine ⟨h1, h2, h3, h4.trans ?_⟩
  rw [e]
  simp only [Nat.add_assoc, Nat.add_zero]
theorem cntB_range : ∀ n x : Nat, cntB n x = ((List.range n).filter fun i => x.testBit i).length := by
  intro n
  induction n with
  | zero => intro x; rfl
  | succ n ih =>
    intro x
    rw [cntB, ih (x / 2), List.range_succ_eq_map, List.filter_cons]
    have e : ((List.range n).map Nat.succ).filter (fun i => x.testBit i) = ((List.range n).filter fun i => (x / 2).testBit i).map Nat.succ := by
      rw [List.filter_map]
      congr 1
      apply List.filter_congr
      intro i _
      exact Nat.testBit_succ x i
    rw [e, Nat.testBit_zero]
    by_cases h : x % 2 = 1
    · simp [h]; omega
    · have : x % 2 = 0 := by omega
      simp [this]
end Go.Proofs.YtaneamfnjhiigaaDoor.E
