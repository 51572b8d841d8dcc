/- The contracts of the numbers within the limit: what num.Add, num.Sub, num.Mul and their helpers answer, for all whole numbers. -/
import Derived.Test.YtohgniddfpjjfaaTypes
import Derived.Test.YtohgniddfpjjfaaELaw
import Derived.Test.YtohgniddfpjjfaaNumMath
namespace Go.Proofs.Ytohgniddfpjjfaa.E
open Go NumMath
set_option linter.unusedSimpArgs false
set_option maxRecDepth 100000

theorem lim_mm (a : Int) : mm true (mm false a 1099511627776) (-1099511627776) = lim a := by
  unfold mm lim; simp only; split <;> split <;> (try split) <;> (try split) <;> omega
theorem i64w (n : Int) (h : -9223372036854775808 ≤ n) (h' : n ≤ 9223372036854775807) : IntKind.i64.wrap n = n := by rw [IntKind.wrap_i64]; omega

def X0 : Cx := ⟨tt, [], []⟩
theorem X0_ok : CxOk Try.prog X0 := ⟨tt_ok, fun p h => by simp [X0] at h, fun g h => by simp [X0] at h, mixed⟩

def withinG : List AV → Option (Bool × AV) := int1 fun a => some (true, i64 (lim a))
theorem within_ok : CtrOk Try.prog 38 (pureCtr withinG) :=
  pureCtr_ok X0_ok Try.func38 (by decide) rfl fun args u h => by
    obtain ⟨a, rfl, h⟩ := int1_some h
    obtain ⟨_, rfl⟩ := Prod.mk.inj (Option.some.inj h)
    exact ⟨rfl, rfl, straight rfl (by rw [← lim_mm]; rfl)⟩

def sizeG : List AV → Option (Bool × AV) := int1 fun a => some (decide (-1099511627776 ≤ a) && decide (a ≤ 1099511627776), u64 (if a < 0 then -a else a))
theorem size_ok : CtrOk Try.prog 40 (pureCtr sizeG) :=
  pureCtr_ok X0_ok Try.func40 (by decide) rfl fun args u h => by
    obtain ⟨a, rfl, h⟩ := int1_some h
    obtain ⟨hb, rfl⟩ := Prod.mk.inj (Option.some.inj h)
    simp only [Bool.and_eq_true, decide_eq_true_eq] at hb
    refine ⟨rfl, rfl, straight rfl ?_⟩
    have : (if a < 0 then -a else a) = IntKind.u64.wrap (mm true a (IntKind.i64.wrap (0 - a))) := by
      rw [u64_wrap, i64w (0 - a) (by omega) (by omega)]
      unfold mm; simp only; split <;> split <;> omega
    rw [this]; rfl

def mul64G : List AV → Option (Bool × AV)
  | [.v (.int .u64 a), .v (.int .u64 b)] => some (decide (0 ≤ a) && decide (a < 18446744073709551616) && decide (0 ≤ b) && decide (b < 18446744073709551616), .t [u64 (a * b / 18446744073709551616), u64 (a * b % 18446744073709551616)])
  | _ => none
theorem fdiv32 (x : Int) : x.fdiv (2 ^ min (Int.toNat 32) IntKind.u64.bits) = x / 4294967296 := by
  rw [show (2 : Int) ^ min (Int.toNat 32) IntKind.u64.bits = 4294967296 by decide, Int.fdiv_eq_ediv_of_nonneg _ (by decide)]
theorem mul64_ok : CtrOk Try.prog 39 (pureCtr mul64G) :=
  pureCtr_ok X0_ok Try.func39 (by decide) rfl fun args u h => by
    unfold mul64G at h
    split at h
    case h_2 => cases h
    rename_i a b
    obtain ⟨hb, rfl⟩ := Prod.mk.inj (Option.some.inj h)
    simp only [Bool.and_eq_true, decide_eq_true_eq] at hb
    obtain ⟨⟨⟨h1, h2⟩, h3⟩, h4⟩ := hb
    refine ⟨rfl, rfl, straight rfl ?_⟩
    have := high_word h1 h2 h3 h4
    simp only [← fdiv32] at this
    rw [← this, ← u64_wrap]
    rfl

def X1 : Cx := ⟨tt, [(38, pureCtr withinG), (40, pureCtr sizeG), (39, pureCtr mul64G)], [38, 40, 39]⟩
theorem pc_ok {cs : Ctrs} {pc : List Nat} (h : ∀ g ∈ pc, ∃ G, ctr cs g = some (pureCtr G)) : PureOk cs pc := fun g hg G hG => by
  obtain ⟨G', h'⟩ := h g hg
  rw [hG] at h'
  rw [Option.some.inj h']
  exact pureCtr_pure G'
theorem X1_ok : CxOk Try.prog X1 where
  tt := tt_ok
  cs := by
    intro p hp
    simp only [X1, List.mem_cons, List.not_mem_nil, or_false] at hp
    rcases hp with rfl | rfl | rfl
    · exact within_ok
    · exact size_ok
    · exact mul64_ok
  pc := pc_ok fun g hg => by
    simp only [X1, List.mem_cons, List.not_mem_nil, or_false] at hg
    rcases hg with rfl | rfl | rfl <;> exact ⟨_, rfl⟩
  mixed := mixed

def addG : List AV → Option (Bool × AV) := int2 fun a b => some (true, i64 (lim (lim a + lim b)))
theorem add_ok : CtrOk Try.prog 14 (pureCtr addG) :=
  pureCtr_ok X1_ok Try.func14 (by decide) rfl fun args u h => by
    obtain ⟨a, b, rfl, h⟩ := int2_some h
    obtain ⟨_, rfl⟩ := Prod.mk.inj (Option.some.inj h)
    have h1 := lim_ge a; have h2 := lim_le a; have h3 := lim_ge b; have h4 := lim_le b
    exact ⟨rfl, rfl, straight rfl (by rw [← i64w (lim a + lim b) (by omega) (by omega)]; rfl)⟩
def subG : List AV → Option (Bool × AV) := int2 fun a b => some (true, i64 (lim (lim a - lim b)))
theorem sub_ok : CtrOk Try.prog 16 (pureCtr subG) :=
  pureCtr_ok X1_ok Try.func16 (by decide) rfl fun args u h => by
    obtain ⟨a, b, rfl, h⟩ := int2_some h
    obtain ⟨_, rfl⟩ := Prod.mk.inj (Option.some.inj h)
    have h1 := lim_ge a; have h2 := lim_le a; have h3 := lim_ge b; have h4 := lim_le b
    exact ⟨rfl, rfl, straight rfl (by rw [← i64w (lim a - lim b) (by omega) (by omega)]; rfl)⟩
def mulG : List AV → Option (Bool × AV) := int2 fun a b => some (true, i64 (lim (lim a * lim b)))
theorem mul_ok : CtrOk Try.prog 15 (pureCtr mulG) :=
  pureCtr_ok X1_ok Try.func15 (by decide) rfl fun args u hh => by
    obtain ⟨a, b, rfl, hh'⟩ := int2_some hh
    obtain ⟨_, rfl⟩ := Prod.mk.inj (Option.some.inj hh')
    clear hh hh'
    refine ⟨rfl, rfl, straight rfl ?_⟩
    have h1 := lim_ge a; have h2 := lim_le a; have h3 := lim_ge b; have h4 := lim_le b
    have s1 : (decide (-1099511627776 ≤ lim a) && decide (lim a ≤ 1099511627776)) = true := by simp [h1, h2]
    have s2 : (decide (-1099511627776 ≤ lim b) && decide (lim b ≤ 1099511627776)) = true := by simp [h3, h4]
    unfold runF
    conv => arg 1; whnf
    refine brt s1 ?_
    conv => arg 1; whnf
    refine brt s2 ?_
    conv => arg 1; whnf
    generalize lim a = x at *
    generalize lim b = y at *
    clear s1 s2
    have s3 : ∀ z : Int, -1099511627776 ≤ z → z ≤ 1099511627776 → 0 ≤ (if z < 0 then -z else z) ∧ (if z < 0 then -z else z) ≤ 1099511627776 := fun z _ _ => by split <;> omega
    have key : (if x < 0 then -x else x) * (if y < 0 then -y else y) = if (decide (x < 0) != decide (y < 0)) = true then -(x * y) else x * y := by
      by_cases hx : x < 0 <;> by_cases hy : y < 0 <;> simp [hx, hy, Int.neg_mul_neg, Int.neg_mul, Int.mul_neg]
    obtain ⟨p1, p2⟩ := s3 x h1 h2
    obtain ⟨p3, p4⟩ := s3 y h3 h4
    refine brt (by simp only [Bool.and_eq_true, decide_eq_true_eq]; omega) ?_
    conv => arg 1; whnf
    have hb := mul_bd p1 p3 p2 p4
    have hw : ∀ n : Int, -1099511627776 ≤ n → n ≤ 1099511627776 → IntKind.i64.wrap n = n := fun n _ _ => i64w n (by omega) (by omega)
    rw [key] at hb
    generalize hz : (if x < 0 then -x else x) * (if y < 0 then -y else y) = z
    rw [hz] at key
    repeat' (first | (refine brt (by assumption) ?_; conv => arg 1; whnf) | (refine brf (by assumption) ?_; conv => arg 1; whnf) | (refine br (fun h => ?_) (fun h => ?_) <;> (conv => arg 1; whnf)))
    all_goals
      rw [← key] at hb
      have hs := h
      clear h
      clear hz
      generalize x * y = w at *
      simp only [decide_eq_true_eq, decide_eq_false_iff_not] at *
      have hk : (decide (x < 0) = decide (y < 0) → z = w) ∧ (¬ decide (x < 0) = decide (y < 0) → z = -w) := by
        rw [key]; cases decide (x < 0) <;> cases decide (y < 0) <;> simp
      have hk' : decide (x < 0) = decide (y < 0) ∨ ¬ decide (x < 0) = decide (y < 0) := by exact Decidable.em _
      simp only [Bool.not_eq_true', Bool.not_eq_false', beq_iff_eq, beq_eq_false_iff_ne, ne_eq] at hs
      first | (have hz := hk.1 hs) | (have hz := hk.2 hs)
      refine leaf (congrArg i64 ?_)
      clear key hk hk' hs
      (try rw [hw (z % 18446744073709551616) (by omega) (by omega)])
      (try rw [hw (0 - z % 18446744073709551616) (by omega) (by omega)])
      (try rw [hw (0 - 1099511627776) (by omega) (by omega)])
      unfold lim
      split <;> (try split) <;> omega
end Go.Proofs.Ytohgniddfpjjfaa.E
