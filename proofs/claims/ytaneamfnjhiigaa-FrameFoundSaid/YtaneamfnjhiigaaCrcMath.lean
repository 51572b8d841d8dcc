/- The check sum of bytes, in numbers of 16 bits. -/
import Derived.Laws.BitsLemmas
import Derived.Laws.Bits128
namespace Go.Proofs.Ytaneamfnjhiigaa.E
open Go

/-- A step of the check sum. -/
def L1 (x : BitVec 16) : BitVec 16 := (x <<< 1) ^^^ (if x.msb = true then 4129#16 else 0#16)
def itL : Nat → BitVec 16 → BitVec 16
  | 0, x => x
  | n + 1, x => L1 (itL n x)
def crc1 (x : BitVec 16) (c : Int) : BitVec 16 := itL 8 (x ^^^ (BitVec.ofInt 16 c <<< 8))
def crcS (l : List Int) : BitVec 16 := l.foldl crc1 65535#16
def crc (l : List Int) : Int := ((crcS l).toNat : Int)
theorem crc_bd (l : List Int) : 0 ≤ crc l ∧ crc l < 65536 := by
  have := (crcS l).isLt
  unfold crc
  omega
theorem u16_wrap (n : Int) : IntKind.u16.wrap n = n % 65536 := by simp [IntKind.wrap, IntKind.signed, IntKind.bits]
theorem u8_wrap (n : Int) : IntKind.u8.wrap n = n % 256 := by simp [IntKind.wrap, IntKind.signed, IntKind.bits]
theorem ofInt_nat (x : BitVec 16) : BitVec.ofInt 16 (x.toNat : Int) = x := by
  apply BitVec.eq_of_toNat_eq
  have := x.isLt
  simp
theorem bits_u16 (x y : BitVec 16) : bits .xor .u16 (x.toNat : Int) (y.toNat : Int) = ((x ^^^ y).toNat : Int) := by
  show IntKind.u16.wrap ((BitVec.ofInt 16 (x.toNat : Int) ^^^ BitVec.ofInt 16 (y.toNat : Int)).toNat : Nat) = _
  rw [ofInt_nat, ofInt_nat, u16_wrap]
  have := (x ^^^ y).isLt
  omega
theorem msb_16 (x : BitVec 16) : x.msb = decide (32768 ≤ x.toNat) := by
  rw [BitVec.msb_eq_decide]
/-- A step, as the program has it. -/
theorem step16 (x : BitVec 16) : bits .xor .u16 (IntKind.u16.wrap ((x.toNat : Int) * 2 ^ min (Int.toNat 1) IntKind.u16.bits)) (IntKind.u16.wrap ((x.toNat : Int).fdiv (2 ^ min (Int.toNat 15) IntKind.u16.bits) * 4129)) = ((L1 x).toNat : Int) := by
  have hx := x.isLt
  have e1 : IntKind.u16.wrap ((x.toNat : Int) * 2 ^ min (Int.toNat 1) IntKind.u16.bits) = ((x <<< 1).toNat : Int) := by
    rw [show (2 : Int) ^ min (Int.toNat 1) IntKind.u16.bits = 2 by decide, u16_wrap, BitVec.toNat_shiftLeft, Nat.shiftLeft_eq]
    omega
  have e2 : IntKind.u16.wrap ((x.toNat : Int).fdiv (2 ^ min (Int.toNat 15) IntKind.u16.bits) * 4129) = ((if x.msb = true then 4129#16 else 0#16 : BitVec 16).toNat : Int) := by
    rw [show (2 : Int) ^ min (Int.toNat 15) IntKind.u16.bits = 32768 by decide, u16_wrap, Int.fdiv_eq_ediv_of_nonneg _ (by decide), msb_16]
    by_cases h : 32768 ≤ x.toNat
    · rw [decide_eq_true h, if_pos rfl]
      show _ = ((4129 : Nat) : Int)
      omega
    · rw [decide_eq_false h, if_neg (by decide)]
      show _ = ((0 : Nat) : Int)
      omega
  rw [e1, e2, bits_u16]
  rfl
/-- A byte comes in, as the program has it. -/
theorem byte16 (x : BitVec 16) (c : Int) : bits .xor .u16 (x.toNat : Int) (IntKind.u16.wrap (IntKind.u16.wrap c * 2 ^ min (Int.toNat 8) IntKind.u16.bits)) = ((x ^^^ (BitVec.ofInt 16 c <<< 8)).toNat : Int) := by
  have e : IntKind.u16.wrap (IntKind.u16.wrap c * 2 ^ min (Int.toNat 8) IntKind.u16.bits) = ((BitVec.ofInt 16 c <<< 8).toNat : Int) := by
    rw [show (2 : Int) ^ min (Int.toNat 8) IntKind.u16.bits = 256 by decide, u16_wrap, u16_wrap, BitVec.toNat_shiftLeft, Nat.shiftLeft_eq, BitVec.toNat_ofInt]
    omega
  rw [e, bits_u16]
/-- The same, as the document has it. -/
theorem rstep16 (x : BitVec 16) : (if 65536 ≤ IntKind.i64.wrap (2 * (x.toNat : Int)) then bits .xor .i64 (IntKind.i64.wrap (IntKind.i64.wrap (2 * (x.toNat : Int)) - 65536)) 4129 else IntKind.i64.wrap (2 * (x.toNat : Int))) = ((L1 x).toNat : Int) := by
  have hx := x.isLt
  have w : IntKind.i64.wrap (2 * (x.toNat : Int)) = 2 * (x.toNat : Int) := by rw [IntKind.wrap_i64]; omega
  rw [w]
  unfold L1
  rw [msb_16]
  by_cases h : 32768 ≤ x.toNat
  · rw [if_pos (by omega), decide_eq_true h, if_pos rfl]
    have w2 : IntKind.i64.wrap (2 * (x.toNat : Int) - 65536) = ((2 * x.toNat - 65536 : Nat) : Int) := by rw [IntKind.wrap_i64]; omega
    have hb : (2 * x.toNat - 65536) ^^^ 4129 < 2 ^ 16 := Nat.xor_lt_two_pow (by omega) (by decide)
    rw [w2, BitVec.toNat_xor, BitVec.toNat_shiftLeft, Nat.shiftLeft_eq]
    show IntKind.i64.wrap ((BitVec.ofInt 64 ((2 * x.toNat - 65536 : Nat) : Int) ^^^ BitVec.ofInt 64 4129).toNat : Nat) = _
    rw [BitVec.toNat_xor, BitVec.toNat_ofInt, BitVec.toNat_ofInt]
    have e1 : (((2 * x.toNat - 65536 : Nat) : Int) % ((2 ^ 64 : Nat) : Int)).toNat = 2 * x.toNat - 65536 := by omega
    have e2 : ((4129 : Int) % ((2 ^ 64 : Nat) : Int)).toNat = 4129 := by decide
    have e3 : x.toNat * 2 ^ 1 % 2 ^ 16 = 2 * x.toNat - 65536 := by omega
    have e4 : (4129#16).toNat = 4129 := by decide
    rw [e1, e2, e3, e4, IntKind.wrap_i64]
    omega
  · rw [if_neg (by omega), decide_eq_false h, if_neg (by decide), BitVec.xor_zero, BitVec.toNat_shiftLeft, Nat.shiftLeft_eq]
    omega
theorem rbyte16 (x : BitVec 16) (c : Int) (h0 : 0 ≤ c) (h1 : c < 256) : bits .xor .i64 (x.toNat : Int) (IntKind.i64.wrap (IntKind.i64.wrap c * 256)) = ((x ^^^ (BitVec.ofInt 16 c <<< 8)).toNat : Int) := by
  have hx := x.isLt
  have w : IntKind.i64.wrap (IntKind.i64.wrap c * 256) = ((c.toNat * 256 : Nat) : Int) := by rw [IntKind.wrap_i64, IntKind.wrap_i64]; omega
  have hb : x.toNat ^^^ (c.toNat * 256) < 2 ^ 16 := Nat.xor_lt_two_pow hx (by omega)
  rw [w, BitVec.toNat_xor, BitVec.toNat_shiftLeft, Nat.shiftLeft_eq, BitVec.toNat_ofInt]
  show IntKind.i64.wrap ((BitVec.ofInt 64 (x.toNat : Int) ^^^ BitVec.ofInt 64 ((c.toNat * 256 : Nat) : Int)).toNat : Nat) = _
  rw [BitVec.toNat_xor, BitVec.toNat_ofInt, BitVec.toNat_ofInt]
  have e1 : ((x.toNat : Int) % ((2 ^ 64 : Nat) : Int)).toNat = x.toNat := by omega
  have e2 : (((c.toNat * 256 : Nat) : Int) % ((2 ^ 64 : Nat) : Int)).toNat = c.toNat * 256 := by omega
  have e3 : (c % ((2 ^ 16 : Nat) : Int)).toNat * 2 ^ 8 % 2 ^ 16 = c.toNat * 256 := by omega
  rw [e1, e2, e3, IntKind.wrap_i64]
  omega

/-! ### What is so of it -/
theorem L1_xor (x y : BitVec 16) : L1 (x ^^^ y) = L1 x ^^^ L1 y := by
  unfold L1
  rw [BitVec.shiftLeft_xor_distrib, BitVec.msb_xor]
  cases x.msb <;> cases y.msb <;> simp [BitVec.xor_assoc]
  · exact BitVec.xor_comm _ _
  · rw [← BitVec.xor_assoc (4129#16) (y <<< 1), BitVec.xor_comm (4129#16) (y <<< 1), BitVec.xor_assoc (y <<< 1), BitVec.xor_self, BitVec.xor_zero]
theorem itL_xor (n : Nat) (x y : BitVec 16) : itL n (x ^^^ y) = itL n x ^^^ itL n y := by
  induction n with
  | zero => rfl
  | succ n ih => simp only [itL, ih, L1_xor]
theorem L1_inj {x : BitVec 16} (h : L1 x = 0#16) : x = 0#16 := by
  have hx := x.isLt
  unfold L1 at h
  rw [msb_16] at h
  by_cases h2 : 32768 ≤ x.toNat
  · rw [decide_eq_true h2, if_pos rfl] at h
    have := congrArg (fun z : BitVec 16 => z.getLsbD 0) h
    simp at this
  · rw [decide_eq_false h2, if_neg (by decide), BitVec.xor_zero] at h
    have := congrArg BitVec.toNat h
    rw [BitVec.toNat_shiftLeft, Nat.shiftLeft_eq] at this
    apply BitVec.eq_of_toNat_eq
    simp at this ⊢
    omega
theorem itL_inj {n : Nat} {x : BitVec 16} (h : itL n x = 0#16) : x = 0#16 := by
  induction n with
  | zero => exact h
  | succ n ih => exact ih (L1_inj h)
theorem itL_add (m n : Nat) (x : BitVec 16) : itL (m + n) x = itL m (itL n x) := by
  induction m with
  | zero => rw [Nat.zero_add]; rfl
  | succ m ih => rw [Nat.succ_add]; simp only [itL, ih]
/-- Low bits are only moved. -/
theorem itL_low (n : Nat) (hn : n ≤ 8) (x : BitVec 16) (h : x.toNat < 256) : itL n x = x <<< n := by
  induction n with
  | zero => simp [itL]
  | succ n ih =>
    have e := ih (by omega)
    simp only [itL, e]
    unfold L1
    have hm : (x <<< n).msb = false := by
      rw [msb_16, BitVec.toNat_shiftLeft, Nat.shiftLeft_eq]
      apply decide_eq_false
      have h2 : 2 ^ n ≤ 2 ^ 7 := Nat.pow_le_pow_right (by decide) (by omega)
      have h3 : x.toNat * 2 ^ n ≤ 255 * 128 := Nat.mul_le_mul (by omega) (by simpa using h2)
      have h4 : x.toNat * 2 ^ n % 2 ^ 16 ≤ x.toNat * 2 ^ n := Nat.mod_le _ _
      omega
    rw [hm, if_neg (by decide), BitVec.xor_zero, ← BitVec.shiftLeft_add]
/-- Two check sums of one tail are apart as far as they were. -/
theorem crcS_from (l : List Int) (x y : BitVec 16) : l.foldl crc1 (x ^^^ y) = l.foldl crc1 x ^^^ itL (8 * l.length) y := by
  induction l generalizing x y with
  | nil => rfl
  | cons c l ih =>
    have e : crc1 (x ^^^ y) c = crc1 x c ^^^ itL 8 y := by
      unfold crc1
      rw [← itL_xor]
      congr 1
      rw [BitVec.xor_assoc, BitVec.xor_comm y, ← BitVec.xor_assoc]
    rw [List.foldl_cons, List.foldl_cons, e, ih, List.length_cons, show 8 * (l.length + 1) = 8 * l.length + 8 by omega, itL_add]
theorem ofInt_low (c : Int) (h0 : 0 ≤ c) (h1 : c < 256) : (BitVec.ofInt 16 c).toNat = c.toNat := by
  rw [BitVec.toNat_ofInt]; omega
/-- Two bytes at once. -/
theorem crc_two (x : BitVec 16) (c d : Int) (hd : 0 ≤ d) (hd' : d < 256) : crc1 (crc1 x c) d = itL 16 (x ^^^ ((BitVec.ofInt 16 c <<< 8) ^^^ BitVec.ofInt 16 d)) := by
  have e : itL 8 (BitVec.ofInt 16 d) = BitVec.ofInt 16 d <<< 8 := itL_low 8 (Nat.le_refl _) _ (by rw [ofInt_low d hd hd']; omega)
  unfold crc1
  rw [← e, ← itL_xor, ← itL_add, BitVec.xor_assoc]
theorem two_nat (x : BitVec 16) : (BitVec.ofInt 16 ((x.toNat : Int) / 256) <<< 8) ^^^ BitVec.ofInt 16 ((x.toNat : Int) % 256) = x := by
  have hx := x.isLt
  apply BitVec.eq_of_toNat_eq
  have e1 : (BitVec.ofInt 16 ((x.toNat : Int) / 256) <<< 8).toNat = x.toNat / 256 * 256 := by
    rw [BitVec.toNat_shiftLeft, Nat.shiftLeft_eq, BitVec.toNat_ofInt]; omega
  have e2 : (BitVec.ofInt 16 ((x.toNat : Int) % 256)).toNat = x.toNat % 256 := by rw [BitVec.toNat_ofInt]; omega
  rw [BitVec.toNat_xor, e1, e2]
  have e3 : x.toNat / 256 * 256 = 2 ^ 8 * (x.toNat / 256) := by omega
  rw [e3]
  have : 2 ^ 8 * (x.toNat / 256) ^^^ x.toNat % 256 = 2 ^ 8 * (x.toNat / 256) + x.toNat % 256 := by
    have hlt : x.toNat % 256 < 2 ^ 8 := Nat.mod_lt _ (by decide)
    apply Nat.eq_of_testBit_eq
    intro i
    rw [Nat.testBit_xor, Nat.testBit_two_pow_mul_add _ hlt, Nat.testBit_two_pow_mul]
    by_cases hi : i < 8
    · have h8 : decide (8 ≤ i) = false := decide_eq_false (by omega)
      simp [hi, h8]
    · rw [Nat.testBit_lt_two_pow (Nat.lt_of_lt_of_le hlt (Nat.pow_le_pow_right (by decide) (by omega)))]
      simp [hi]
      omega
  rw [this]
  omega
/-- With its check sum behind them, its greater byte first, bytes have the check sum 0. -/
theorem crc_zero (l : List Int) : crc (l ++ [crc l / 256, crc l % 256]) = 0 := by
  unfold crc crcS
  rw [List.foldl_append]
  show ((crc1 (crc1 (l.foldl crc1 65535#16) _) _).toNat : Int) = 0
  generalize l.foldl crc1 65535#16 = x
  have hx := x.isLt
  rw [crc_two x _ _ (by omega) (by omega), two_nat, BitVec.xor_self]
  have : ∀ n, itL n (0#16) = 0#16 := fun n => by
    induction n with
    | zero => rfl
    | succ n ih => simp only [itL, ih]; decide
  rw [this]
  rfl
/-- Rows that are unlike in two bytes side by side have unlike check sums. -/
theorem crc_burst (l m : List Int) (c d c' d' : Int) (hd : 0 ≤ d ∧ d < 256) (hd' : 0 ≤ d' ∧ d' < 256) (hc : 0 ≤ c ∧ c < 256) (hc' : 0 ≤ c' ∧ c' < 256) (h : c ≠ c' ∨ d ≠ d') : crc (l ++ c' :: d' :: m) ≠ crc (l ++ c :: d :: m) := by
  intro he
  unfold crc crcS at he
  have he : (l ++ c' :: d' :: m).foldl crc1 65535#16 = (l ++ c :: d :: m).foldl crc1 65535#16 := BitVec.eq_of_toNat_eq (by omega)
  rw [List.foldl_append, List.foldl_append, List.foldl_cons, List.foldl_cons, List.foldl_cons, List.foldl_cons] at he
  generalize l.foldl crc1 65535#16 = x at he
  rw [crc_two x c' d' hd'.1 hd'.2, crc_two x c d hd.1 hd.2] at he
  generalize hz : (BitVec.ofInt 16 c' <<< 8) ^^^ BitVec.ofInt 16 d' = z at he
  generalize hy : (BitVec.ofInt 16 c <<< 8) ^^^ BitVec.ofInt 16 d = y at he
  have e1 : x ^^^ z = (x ^^^ y) ^^^ (y ^^^ z) := by rw [BitVec.xor_assoc, ← BitVec.xor_assoc y y, BitVec.xor_self, BitVec.zero_xor]
  rw [e1, itL_xor, crcS_from] at he
  have e2 : itL (8 * m.length) (itL 16 (y ^^^ z)) = 0#16 := by
    have := congrArg (fun w => m.foldl crc1 (itL 16 (x ^^^ y)) ^^^ w) he
    simp only [← BitVec.xor_assoc, BitVec.xor_self, BitVec.zero_xor] at this
    exact this
  have e3 := itL_inj (itL_inj e2)
  have e4 : y = z := by
    have := congrArg (fun w => y ^^^ w) e3
    simp only [← BitVec.xor_assoc, BitVec.xor_self, BitVec.zero_xor, BitVec.xor_zero] at this
    exact this.symm
  rw [← hz, ← hy] at e4
  have t : ∀ {a b : Int}, 0 ≤ a → a < 256 → 0 ≤ b → b < 256 → ((BitVec.ofInt 16 a <<< 8) ^^^ BitVec.ofInt 16 b).toNat = (a * 256 + b).toNat := fun {a b} h1 h2 h3 h4 => by
    have hb : a * 256 + b < 65536 := by omega
    have := two_nat (BitVec.ofNat 16 (a * 256 + b).toNat)
    have e5 : (((BitVec.ofNat 16 (a * 256 + b).toNat).toNat : Nat) : Int) = a * 256 + b := by rw [BitVec.toNat_ofNat]; omega
    rw [e5, show (a * 256 + b) / 256 = a by omega, show (a * 256 + b) % 256 = b by omega] at this
    rw [this, BitVec.toNat_ofNat]; omega
  have e6 := congrArg BitVec.toNat e4
  rw [t hc.1 hc.2 hd.1 hd.2, t hc'.1 hc'.2 hd'.1 hd'.2] at e6
  omega
/-- Bytes that are turned. -/
theorem xor8 {a b : Int} (ha : 0 ≤ a) (ha' : a < 256) (hb : 0 ≤ b) (hb' : b < 256) : bits .xor .u8 a b = ((a.toNat ^^^ b.toNat : Nat) : Int) ∧ a.toNat ^^^ b.toNat < 256 := by
  have hx : a.toNat ^^^ b.toNat < 2 ^ 8 := Nat.xor_lt_two_pow (by omega) (by omega)
  refine ⟨?_, hx⟩
  show IntKind.u8.wrap ((BitVec.ofInt 8 a ^^^ BitVec.ofInt 8 b).toNat : Nat) = _
  rw [BitVec.toNat_xor, BitVec.toNat_ofInt, BitVec.toNat_ofInt, show (a % ((2 ^ 8 : Nat) : Int)).toNat = a.toNat by omega, show (b % ((2 ^ 8 : Nat) : Int)).toNat = b.toNat by omega, u8_wrap]
  omega
theorem xor8_ne {a b : Int} (ha : 0 ≤ a) (ha' : a < 256) (hb : 0 ≤ b) (hb' : b < 256) (h : bits .xor .u8 a b = a) : b = 0 := by
  rw [(xor8 ha ha' hb hb').1] at h
  have h1 : a.toNat ^^^ b.toNat = a.toNat := by omega
  have h2 : a.toNat ^^^ (a.toNat ^^^ b.toNat) = a.toNat ^^^ a.toNat := by rw [h1]
  rw [← Nat.xor_assoc, Nat.xor_self, Nat.zero_xor] at h2
  omega
end Go.Proofs.Ytaneamfnjhiigaa.E
