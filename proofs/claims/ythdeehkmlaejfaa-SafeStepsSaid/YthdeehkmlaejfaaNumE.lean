/- The contracts of the numbers within the limit: what num.Add, num.Sub, num.Mul, num.Sum and their helpers answer, for all whole numbers. -/
import Derived.Test.YthdeehkmlaejfaaTypes
import Derived.Test.YthdeehkmlaejfaaEngE
import Derived.Test.YthdeehkmlaejfaaNumMath
namespace Go.Proofs.Ythdeehkmlaejfaa.E
open Go NumMath
set_option linter.unusedSimpArgs false
set_option maxRecDepth 100000
set_option maxHeartbeats 4000000

theorem lim_mm (a : Int) : mm true (mm false a 1099511627776) (-1099511627776) = lim a := by
  unfold mm lim; simp only; split <;> split <;> (try split) <;> (try split) <;> omega
theorem i64w (n : Int) (h : -9223372036854775808 ≤ n) (h' : n ≤ 9223372036854775807) : IntKind.i64.wrap n = n := by rw [IntKind.wrap_i64]; omega
theorem u64w (n : Int) (h : 0 ≤ n) (h' : n < 18446744073709551616) : IntKind.u64.wrap n = n := by rw [u64_wrap]; omega

def X0 : Cx := ⟨tt, [], [], []⟩
theorem X0_ok : CxOk Try.prog X0 := CxOk.nil tt_ok mixed

def withinG : List AV → Option (Bool × AV) := fn1 dI fun a => giv true (i64 (lim a))
theorem within_ok : CtrOk Try.prog 23 (pureCtr withinG) :=
  pureCtr_ok X0_ok Try.func23 (by decide) rfl fun args u h => by
    obtain ⟨a, rfl, h⟩ := fn1_some h
    obtain ⟨_, rfl⟩ := giv_some h
    refine ⟨rfl, rfl, ?_⟩
    unfold runF
    (conv => arg 1; whnf)
    exact finI (lim_mm a).symm

def sizeG : List AV → Option (Bool × AV) := fn1 dI fun a => giv (decide (-1099511627776 ≤ a) && decide (a ≤ 1099511627776)) (u64 (if a < 0 then -a else a))
theorem size_ok : CtrOk Try.prog 64 (pureCtr sizeG) :=
  pureCtr_ok X0_ok Try.func64 (by decide) rfl fun args u h => by
    obtain ⟨a, rfl, h⟩ := fn1_some h
    obtain ⟨hb, rfl⟩ := giv_some h
    simp only [Bool.and_eq_true, decide_eq_true_eq] at hb
    refine ⟨rfl, rfl, ?_⟩
    have e : (if a < 0 then -a else a) = IntKind.u64.wrap (mm true a (IntKind.i64.wrap (0 - a))) := by
      rw [u64_wrap, i64w (0 - a) (by omega) (by omega)]
      unfold mm; simp only; split <;> split <;> omega
    unfold runF
    (conv => arg 1; whnf)
    exact finU e

def mul64G : List AV → Option (Bool × AV) := fn2 dU dU fun a b => giv (decide (0 ≤ a) && decide (a < 18446744073709551616) && decide (0 ≤ b) && decide (b < 18446744073709551616)) (.t [u64 (a * b / 18446744073709551616), u64 (a * b % 18446744073709551616)])
theorem fdiv32 (x : Int) : x.fdiv (2 ^ min (Int.toNat 32) IntKind.u64.bits) = x / 4294967296 := by
  rw [show (2 : Int) ^ min (Int.toNat 32) IntKind.u64.bits = 4294967296 by decide, Int.fdiv_eq_ediv_of_nonneg _ (by decide)]
theorem mul64_ok : CtrOk Try.prog 63 (pureCtr mul64G) :=
  pureCtr_ok X0_ok Try.func63 (by decide) rfl fun args u h => by
    obtain ⟨a, b, rfl, h⟩ := fn2_some h
    obtain ⟨hb, rfl⟩ := giv_some h
    simp only [Bool.and_eq_true, decide_eq_true_eq] at hb
    obtain ⟨⟨⟨h1, h2⟩, h3⟩, h4⟩ := hb
    refine ⟨rfl, rfl, ?_⟩
    have := high_word h1 h2 h3 h4
    simp only [← fdiv32] at this
    rw [← this, ← u64_wrap]
    unfold runF
    (conv => arg 1; whnf)
    exact finT ⟨.v _, .v _, trivial⟩

def X1 : Cx := ((X0.add 23 .pure (pureCtr withinG)).add 64 .pure (pureCtr sizeG)).add 63 .pure (pureCtr mul64G)
theorem X1_ok : CxOk Try.prog X1 := ((X0_ok.pure within_ok).pure size_ok).pure mul64_ok

def addG : List AV → Option (Bool × AV) := fn2 dI dI fun a b => giv true (i64 (lim (lim a + lim b)))
theorem add_ok : CtrOk Try.prog 19 (pureCtr addG) :=
  pureCtr_ok X1_ok Try.func19 (by decide) rfl fun args u h => by
    obtain ⟨a, b, rfl, h⟩ := fn2_some h
    obtain ⟨_, rfl⟩ := giv_some h
    have h1 := lim_ge a; have h2 := lim_le a; have h3 := lim_ge b; have h4 := lim_le b
    refine ⟨rfl, rfl, ?_⟩
    unfold runF
    (conv => arg 1; whnf)
    exact finI (by rw [i64w (lim a + lim b) (by omega) (by omega)])
def mulG : List AV → Option (Bool × AV) := fn2 dI dI fun a b => giv true (i64 (lim (lim a * lim b)))
theorem mul_ok : CtrOk Try.prog 60 (pureCtr mulG) :=
  pureCtr_ok X1_ok Try.func60 (by decide) rfl fun args u hh => by
    obtain ⟨a, b, rfl, hh'⟩ := fn2_some hh
    obtain ⟨_, rfl⟩ := giv_some hh'
    clear hh hh'
    refine ⟨rfl, rfl, ?_⟩
    have h1 := lim_ge a; have h2 := lim_le a; have h3 := lim_ge b; have h4 := lim_le b
    have s1 : (decide (-1099511627776 ≤ lim a) && decide (lim a ≤ 1099511627776)) = true := by simp [h1, h2]
    have s2 : (decide (-1099511627776 ≤ lim b) && decide (lim b ≤ 1099511627776)) = true := by simp [h3, h4]
    unfold runF
    (conv => arg 1; whnf)
    refine brt s1 ?_
    (conv => arg 1; whnf)
    refine brt s2 ?_
    (conv => arg 1; whnf)
    generalize lim a = x at *
    generalize lim b = y at *
    clear s1 s2
    have s3 : ∀ z : Int, -1099511627776 ≤ z → z ≤ 1099511627776 → 0 ≤ (if z < 0 then -z else z) ∧ (if z < 0 then -z else z) ≤ 1099511627776 := fun z _ _ => by split <;> omega
    have key : (if x < 0 then -x else x) * (if y < 0 then -y else y) = if (decide (x < 0) != decide (y < 0)) = true then -(x * y) else x * y := by
      by_cases hx : x < 0 <;> by_cases hy : y < 0 <;> simp [hx, hy, Int.neg_mul_neg, Int.neg_mul, Int.mul_neg]
    obtain ⟨p1, p2⟩ := s3 x h1 h2
    obtain ⟨p3, p4⟩ := s3 y h3 h4
    refine brt (by simp only [Bool.and_eq_true, decide_eq_true_eq]; omega) ?_
    (conv => arg 1; whnf)
    have hb := mul_bd p1 p3 p2 p4
    have hw : ∀ n : Int, -1099511627776 ≤ n → n ≤ 1099511627776 → IntKind.i64.wrap n = n := fun n _ _ => i64w n (by omega) (by omega)
    rw [key] at hb
    generalize hz : (if x < 0 then -x else x) * (if y < 0 then -y else y) = z
    rw [hz] at key
    repeat' (first | (refine brt (by assumption) ?_; (conv => arg 1; whnf)) | (refine brf (by assumption) ?_; (conv => arg 1; whnf)) | (refine br (fun h => ?_) (fun h => ?_) <;> ((conv => arg 1; whnf))))
    all_goals
      rw [← key] at hb
      have hs := h
      clear h
      clear hz
      generalize x * y = w at *
      simp only [decide_eq_true_eq, decide_eq_false_iff_not] at *
      have hk : (decide (x < 0) = decide (y < 0) → z = w) ∧ (¬ decide (x < 0) = decide (y < 0) → z = -w) := by
        rw [key]; cases decide (x < 0) <;> cases decide (y < 0) <;> simp
      have hk' : decide (x < 0) = decide (y < 0) ∨ ¬ decide (x < 0) = decide (y < 0) := by exact Decidable.em _
      simp only [Bool.not_eq_true', Bool.not_eq_false', beq_iff_eq, beq_eq_false_iff_ne, ne_eq] at hs
      first | (have hz := hk.1 hs) | (have hz := hk.2 hs)
      refine finI ?_
      clear key hk hk' hs
      (try rw [hw (z % 18446744073709551616) (by omega) (by omega)])
      (try rw [hw (0 - z % 18446744073709551616) (by omega) (by omega)])
      (try rw [hw (0 - 1099511627776) (by omega) (by omega)])
      unfold lim
      split <;> (try split) <;> omega
def X2 : Cx := (X1.add 19 .pure (pureCtr addG)).add 60 .pure (pureCtr mulG)
theorem X2_ok : CxOk Try.prog X2 := (X1_ok.pure add_ok).pure mul_ok
def sumL (l : List Int) (k : Nat) : Int := (l.take k).foldl (fun n a => lim (lim n + lim a)) 0
theorem sumL_succ (l : List Int) (k : Nat) (h : k < l.length) : sumL l (k + 1) = lim (lim (sumL l k) + lim (l.getD k 0)) := by
  unfold sumL
  rw [List.take_succ_eq_append_getElem h, List.foldl_append]
  simp [List.getD_eq_getElem?_getD, h]
def sumG : List AV → Option (Bool × AV) := fn1 dR fun r => gRow eI r fun l => giv true (i64 (sumL l l.length))
theorem sum_run (args : List AV) (u : AV) (h : sumG args = some (true, u)) : closed u = true ∧ args.all closed = true ∧ ∃ args', FitL [] [] args' args ∧ runF X2 Try.f59 args' [] u [] := by
    obtain ⟨r, rfl, hv⟩ := fn1_some h
    obtain ⟨l, g, e, hl, hv⟩ := gRow_some eI hv
    rw [e]
    obtain ⟨_, rfl⟩ := giv_some hv
    clear h hv e
    refine ⟨rfl, rfl, [row eI l], ⟨hl.fit _ _, trivial⟩, ?_⟩
    have hlen := hl.len
    unfold runF
    (conv => arg 1; whnf)
    refine loopIn (fun k : Nat => k ≤ l.length) (fun k => frm 16 [(2, i64 (sumL l k)), (5, row eI l), (6, i64 l.length), (7, i64 k)]) (fun _ => []) (fun k => l.length - k) 0 [] (Nat.zero_le _) List.nodup_nil ?_ True.intro rfl fun k hi => ?_
    · repeat' (first | exact True.intro | exact Fit.dead _ | exact Fit.v _ | exact row_self eI l | refine And.intro ?_ ?_)
    · (conv => arg 1; whnf)
      refine br (fun hk => ?_) (fun hk => ?_)
      · have hk := of_decide_eq_true hk
        (conv => arg 1; whnf)
        refine brt (by simp only [Bool.and_eq_true, decide_eq_true_eq]; omega) ?_
        (conv => arg 1; whnf)
        refine again (k + 1) [] (by omega) (by omega) List.nodup_nil ?_ True.intro rfl
        repeat' (first | exact True.intro | exact Fit.dead _ | exact Fit.v _ | exact .i fun _ _ => rfl | exact Fit.ip | exact .p rfl | exact .q rfl | exact .s rfl | exact .y rfl | refine Fit.al ?_ | refine Fit.fl ?_ ?_ | refine And.intro ?_ ?_)
        · exact Fit.v' (by rw [sumL_succ l k (by omega)]; rfl)
        · exact Fit.v' (by rw [i64w _ (by omega) (by omega)]; rfl)
      · have hk := of_decide_eq_false hk
        obtain rfl : k = l.length := by omega
        (conv => arg 1; whnf)
        refine leave ?_
        show tr _
        (conv => arg 1; whnf)
        exact finI rfl
theorem sum_ok : CtrOk Try.prog 59 (pureCtr sumG) := pureCtr_can X2_ok Try.func59 (by decide) rfl sum_run
theorem sumB_ok : CtrOk Try.prog 59 (borCtr sumG) := borCtr_can X2_ok Try.func59 (by decide) rfl fun args u h => (sum_run args u h).2.2
end Go.Proofs.Ythdeehkmlaejfaa.E
