/- The contracts of the document's numbers, and of sums, by the engine. -/
import Derived.Test.YtohgniddfpjjfaaNumOrderE
namespace Go.Proofs.Ytohgniddfpjjfaa.E
open Go NumMath
set_option linter.unusedSimpArgs false
set_option maxRecDepth 100000

def sumL (l : List Int) (k : Nat) : Int := (l.take k).foldl (fun n a => lim (lim n + lim a)) 0
def sumG : List AV → Option (Bool × AV) := ints1 fun l => some (true, i64 (sumL l l.length))
theorem sumL_succ (l : List Int) (k : Nat) (h : k < l.length) : sumL l (k + 1) = lim (lim (sumL l k) + lim (l.getD k 0)) := by
  unfold sumL
  rw [List.take_succ_eq_append_getElem h, List.foldl_append]
  simp [List.getD_eq_getElem?_getD, h]
def sumO (l : List Int) : Orc := loopO (fun k : Nat => k ≤ l.length) (fun k => frm 16 [(2, i64 (sumL l k)), (5, ints l), (6, i64 l.length), (7, i64 k)]) (fun _ => []) (fun _ K => K (.exit 0) (frm 16 [(2, i64 (sumL l l.length))]) [])
theorem sum_ok : CtrOk Try.prog 20 (pureCtr sumG) :=
  pureCtr_ok X2_ok Try.func20 (by decide) rfl fun args u h => by
    obtain ⟨n, g, rfl, hok, hn, h⟩ := ints1_some h
    obtain ⟨_, rfl⟩ := Prod.mk.inj (Option.some.inj h)
    refine ⟨rfl, rfl, [sumO (listI n g)], ⟨?_, trivial⟩, ?_⟩
    · generalize listI n g = l at hn
      refine loop_ok X2_ok (os := fun _ => []) (fun _ => by exact True.intro) (fun k => l.length - k) fun k K hi ho => ?_
      conv => arg 1; whnf
      refine br (fun hk => ?_) (fun hk => ?_)
      · have hk := of_decide_eq_true hk
        conv => arg 1; whnf
        refine brt (by simp only [Bool.and_eq_true, decide_eq_true_eq]; omega) ?_
        conv => arg 1; whnf
        refine again (k + 1) [] (by omega) (by omega) List.nodup_nil ?_ True.intro ho
        repeat' (first | exact True.intro | exact Fit.dead _ | exact Fit.v _ | exact .i fun _ _ => rfl | refine And.intro ?_ ?_)
        · exact Fit.v' (by rw [sumL_succ l k (by omega)]; rfl)
        · exact Fit.v' (by rw [i64w _ (by omega) (by omega)]; rfl)
      · have hk := of_decide_eq_false hk
        obtain rfl : k = l.length := by omega
        conv => arg 1; whnf
        refine leave ho [] List.nodup_nil ?_ True.intro
        repeat' (first | exact True.intro | exact Fit.dead _ | exact Fit.v _ | refine And.intro ?_ ?_)
    · unfold runF
      conv => arg 1; whnf
      refine enter 0 [] (Nat.zero_le _) List.nodup_nil ?_ True.intro ?_
      · repeat' (first | exact True.intro | exact Fit.dead _ | exact Fit.v _ | exact fit_ints hok rfl | exact Fit.v' (by rw [listI_len]) | refine And.intro ?_ ?_)
      · show tr _
        conv => arg 1; whnf
        exact leaf rfl

def rwithinG : List AV → Option (Bool × AV) := int1 fun a => some (true, i64 (lim a))
theorem rwithin_ok : CtrOk Try.prog 17 (pureCtr rwithinG) :=
  pureCtr_ok X0_ok Try.func17 (by decide) rfl fun args u h => by
    obtain ⟨a, rfl, h⟩ := int1_some h
    obtain ⟨_, rfl⟩ := Prod.mk.inj (Option.some.inj h)
    clear h
    refine ⟨rfl, rfl, straight rfl ?_⟩
    unfold runF
    conv => arg 1; whnf
    refine br (fun h1 => ?_) (fun h1 => ?_)
    · conv => arg 1; whnf
      refine leaf (congrArg i64 ?_)
      have := of_decide_eq_true h1
      unfold lim; split <;> omega
    · conv => arg 1; whnf
      refine br (fun h2 => ?_) (fun h2 => ?_)
      all_goals
        conv => arg 1; whnf
        refine leaf (congrArg i64 ?_)
        have h1 := of_decide_eq_false h1
      · have := of_decide_eq_true h2
        unfold lim; split <;> (try split) <;> omega
      · have := of_decide_eq_false h2
        unfold lim; split <;> (try split) <;> omega
def X4 : Cx := ⟨tt, [(17, pureCtr rwithinG)], [17]⟩
theorem X4_ok : CxOk Try.prog X4 where
  tt := tt_ok
  cs := by
    intro p hp
    simp only [X4, List.mem_cons, List.not_mem_nil, or_false] at hp
    rcases hp with rfl
    exact rwithin_ok
  pc := pc_ok fun g hg => by
    simp only [X4, List.mem_cons, List.not_mem_nil, or_false] at hg
    rcases hg with rfl; exact ⟨_, rfl⟩
  mixed := mixed
theorem radd_ok : CtrOk Try.prog 18 (pureCtr addG) :=
  pureCtr_ok X4_ok Try.func18 (by decide) rfl fun args u h => by
    obtain ⟨a, b, rfl, h⟩ := int2_some h
    obtain ⟨_, rfl⟩ := Prod.mk.inj (Option.some.inj h)
    have h1 := lim_ge a; have h2 := lim_le a; have h3 := lim_ge b; have h4 := lim_le b
    exact ⟨rfl, rfl, straight rfl (by rw [← i64w (lim a + lim b) (by omega) (by omega)]; rfl)⟩
def X5 : Cx := ⟨tt, (18, pureCtr addG) :: X4.cs, 18 :: X4.pc⟩
theorem X5_ok : CxOk Try.prog X5 where
  tt := tt_ok
  cs := by
    intro p hp
    simp only [X5, List.mem_cons] at hp
    rcases hp with rfl | hp
    · exact radd_ok
    · exact X4_ok.cs p hp
  pc := pc_ok fun g hg => by
    simp only [X5, X4, List.mem_cons, List.not_mem_nil, or_false] at hg
    rcases hg with rfl | rfl <;> exact ⟨_, rfl⟩
  mixed := mixed
def rsumO (l : List Int) : Orc := loopO (fun k : Nat => k ≤ l.length) (fun k => frm 18 [(0, ints l), (3, i64 (sumL l k)), (4, i64 k)]) (fun _ => []) (fun _ K => K (.exit 0) (frm 18 [(3, i64 (sumL l l.length))]) [])
theorem rsum_ok : CtrOk Try.prog 21 (pureCtr sumG) :=
  pureCtr_ok X5_ok Try.func21 (by decide) rfl fun args u h => by
    obtain ⟨n, g, rfl, hok, hn, h⟩ := ints1_some h
    obtain ⟨_, rfl⟩ := Prod.mk.inj (Option.some.inj h)
    refine ⟨rfl, rfl, [rsumO (listI n g)], ⟨?_, trivial⟩, ?_⟩
    · generalize listI n g = l at hn
      refine loop_ok X5_ok (os := fun _ => []) (fun _ => by exact True.intro) (fun k => l.length - k) fun k K hi ho => ?_
      conv => arg 1; whnf
      refine br (fun hk => ?_) (fun hk => ?_)
      · have hk := of_decide_eq_true hk
        conv => arg 1; whnf
        refine brt (by simp only [Bool.and_eq_true, decide_eq_true_eq]; omega) ?_
        conv => arg 1; whnf
        refine again (k + 1) [] (by omega) (by omega) List.nodup_nil ?_ True.intro ho
        repeat' (first | exact True.intro | exact Fit.dead _ | exact Fit.v _ | exact .i fun _ _ => rfl | refine And.intro ?_ ?_)
        · exact Fit.v' (by rw [sumL_succ l k (by omega)]; rfl)
        · exact Fit.v' (by rw [i64w _ (by omega) (by omega)]; rfl)
      · have hk := of_decide_eq_false hk
        obtain rfl : k = l.length := by omega
        conv => arg 1; whnf
        refine leave ho [] List.nodup_nil ?_ True.intro
        repeat' (first | exact True.intro | exact Fit.dead _ | exact Fit.v _ | refine And.intro ?_ ?_)
    · unfold runF
      conv => arg 1; whnf
      refine enter 0 [] (Nat.zero_le _) List.nodup_nil ?_ True.intro ?_
      · repeat' (first | exact True.intro | exact Fit.dead _ | exact Fit.v _ | exact fit_ints hok rfl | exact Fit.v' (by rw [listI_len]) | refine And.intro ?_ ?_)
      · show tr _
        conv => arg 1; whnf
        exact leaf rfl
def fullG : List AV → Option (Bool × AV) := int1 fun a => some (true, boo (decide ((if lim a < 0 then -lim a else lim a) = 1099511627776)))
theorem full_ok : CtrOk Try.prog 22 (pureCtr fullG) :=
  pureCtr_ok X1_ok Try.func22 (by decide) rfl fun args u h => by
    obtain ⟨a, rfl, h⟩ := int1_some h
    obtain ⟨_, rfl⟩ := Prod.mk.inj (Option.some.inj h)
    have h1 := lim_ge a; have h2 := lim_le a
    refine ⟨rfl, rfl, straight rfl ?_⟩
    unfold runF
    conv => arg 1; whnf
    refine brt (by simp only [Bool.and_eq_true, decide_eq_true_eq]; omega) ?_
    conv => arg 1; whnf
    exact leaf rfl

theorem step_lim {x y n q : Int} (hx : 0 ≤ x) (hx' : x ≤ 1099511627776) (hn : 0 ≤ n) (hn' : n ≤ 1099511627776) (hq : 0 ≤ q) (r : Int) (hr : r = 0 ∨ r = 1) (hy : y = 2 * q + r) :
    lim (n + x * y) = lim ((if r = 1 then lim (n + x) else n) + lim (x + x) * q) := by
  have e : n + x * y = (if r = 1 then n + x else n) + (x + x) * q := by
    rcases hr with rfl | rfl
    · subst hy; simp; grind
    · subst hy; simp; grind
  rw [e]
  have hm : (if r = 1 then lim (n + x) else n) = if r = 1 then (if n + x > 1099511627776 then 1099511627776 else n + x) else n := by
    split
    · unfold lim; split <;> (try split) <;> omega
    · rfl
  rw [hm]
  have hp : lim (x + x) = if x + x > 1099511627776 then 1099511627776 else x + x := by
    unfold lim; split <;> (try split) <;> omega
  rw [hp]
  by_cases hb : x + x > 1099511627776
  · rw [if_pos hb]
    rcases Int.lt_or_eq_of_le hq with h | h
    · have h1 : (x + x) * 1 ≤ (x + x) * q := Int.mul_le_mul_of_nonneg_left (by omega) (by omega)
      generalize (x + x) * q = z at *
      unfold lim; repeat' split
      all_goals omega
    · subst h
      rw [Int.mul_zero, Int.mul_zero]
      unfold lim; repeat' split
      all_goals omega
  · rw [if_neg hb]
    have h1 : 0 ≤ (x + x) * q := Int.mul_nonneg (by omega) hq
    generalize (x + x) * q = z at *
    unfold lim; repeat' split
    all_goals omega

structure M3 where
  x : Int
  y : Int
  n : Int
def rmulO (s : Bool) : Orc := loopO (fun m : M3 => 0 ≤ m.x ∧ m.x ≤ 1099511627776 ∧ 0 ≤ m.y ∧ m.y ≤ 1099511627776 ∧ 0 ≤ m.n ∧ m.n ≤ 1099511627776)
  (fun m => frm 41 [(0, i64 m.x), (1, i64 m.y), (5, boo s), (6, i64 m.n)]) (fun _ => []) (fun m K => K (.exit 0) (frm 41 [(5, boo s), (6, i64 (lim (m.n + m.x * m.y)))]) [])
theorem rmulO_ok (s : Bool) {body : Code} (hb : bodies (bodyOf Try.f19) = [body]) : OrcOk Try.prog body (rmulO s) := by
  obtain rfl := (List.cons.inj hb).1
  clear hb
  refine loop_ok X5_ok (os := fun _ => []) (fun _ => by exact True.intro) (fun m => m.y.toNat) fun m K hi ho => ?_
  obtain ⟨x, y, n⟩ := m
  obtain ⟨h1, h2, h3, h4, h5, h6⟩ := hi
  simp only at h1 h2 h3 h4 h5 h6 ho
  conv => arg 1; whnf
  refine br (fun hk => ?_) (fun hk => ?_)
  · have hk : 0 < y := of_decide_eq_true hk
    have e1 : lim x = x := lim_id (by omega) h2
    have e2 : lim n = n := lim_id (by omega) h6
    have e3 : y.tmod 2 = y % 2 := Int.tmod_eq_emod_of_nonneg h3
    have e4 : IntKind.i64.wrap (y.tdiv 2) = y / 2 := by rw [Int.tdiv_eq_ediv_of_nonneg h3]; exact i64w _ (by omega) (by omega)
    have p1 : 0 ≤ lim (x + x) := by have := lim_mono (a := 0) (b := x + x) (by omega); rwa [show lim 0 = 0 by decide] at this
    have p2 : 0 ≤ lim (n + x) := by have := lim_mono (a := 0) (b := n + x) (by omega); rwa [show lim 0 = 0 by decide] at this
    have l1 := lim_le (x + x); have l2 := lim_le (n + x)
    have st := step_lim (y := y) h1 h2 h5 h6 (q := y / 2) (by omega) (y % 2) (by omega) (by omega)
    conv => arg 1; whnf
    refine br (fun hr => ?_) (fun hr => ?_)
    all_goals conv => arg 1; whnf
    · have hr : y % 2 = 1 := by rw [← e3]; exact of_decide_eq_true hr
      rw [if_pos hr] at st
      refine again ⟨lim (x + x), y / 2, lim (n + x)⟩ [] ⟨p1, l1, (by omega : 0 ≤ y / 2), (by omega : y / 2 ≤ 1099511627776), p2, l2⟩ (show (y / 2).toNat < y.toNat by omega) List.nodup_nil ?_ True.intro (by simp only; rw [← st]; exact ho)
      repeat' (first | exact True.intro | exact Fit.dead _ | exact Fit.v _ | exact Fit.v' (by simp only [e1, e2, e4]) | refine And.intro ?_ ?_)
    · have hr : ¬ y % 2 = 1 := by rw [← e3]; exact of_decide_eq_false hr
      rw [if_neg hr] at st
      refine again ⟨lim (x + x), y / 2, n⟩ [] ⟨p1, l1, (by omega : 0 ≤ y / 2), (by omega : y / 2 ≤ 1099511627776), h5, h6⟩ (show (y / 2).toNat < y.toNat by omega) List.nodup_nil ?_ True.intro (by simp only; rw [← st]; exact ho)
      repeat' (first | exact True.intro | exact Fit.dead _ | exact Fit.v _ | exact Fit.v' (by simp only [e1, e4]) | refine And.intro ?_ ?_)
  · have hk : ¬ 0 < y := of_decide_eq_false hk
    obtain rfl : y = 0 := by omega
    conv => arg 1; whnf
    refine leave ho [] List.nodup_nil ?_ True.intro
    repeat' (first | exact True.intro | exact Fit.dead _ | exact Fit.v _ | refine And.intro ?_ ?_)
    exact Fit.v' (by dsimp only; rw [Int.mul_zero, Int.add_zero, lim_id (by omega) h6])
theorem rmul_ok : CtrOk Try.prog 19 (pureCtr mulG) :=
  pureCtr_ok X5_ok Try.func19 (by decide) rfl fun args u h => by
    obtain ⟨a, b, rfl, h⟩ := int2_some h
    obtain ⟨_, rfl⟩ := Prod.mk.inj (Option.some.inj h)
    clear h
    have h1 := lim_ge a; have h2 := lim_le a; have h3 := lim_ge b; have h4 := lim_le b
    refine ⟨rfl, rfl, [rmulO (decide (lim a < 0) != decide (lim b < 0))], ⟨rmulO_ok _ rfl, trivial⟩, ?_⟩
    unfold runF
    conv => arg 1; whnf
    generalize lim a = x at *
    generalize lim b = y at *
    have go : ∀ (s : Bool) (u v : Int), 0 ≤ u → u ≤ 1099511627776 → 0 ≤ v → v ≤ 1099511627776 → (if s = true then -(u * v) else u * v) = x * y → (if s = true then IntKind.i64.wrap (0 - lim (0 + u * v)) else lim (0 + u * v)) = lim (x * y) := by
      intro s u v hu hu' hv hv' he
      rw [← he]
      have := lim_ge (u * v); have := lim_le (u * v)
      cases s
      · simp
      · simp only [if_true, Int.zero_add]
        rw [lim_neg, i64w _ (by omega) (by omega)]; omega
    repeat' (first | (refine brt (by assumption) ?_; conv => arg 1; whnf) | (refine brf (by assumption) ?_; conv => arg 1; whnf) | (refine br (fun h => ?_) (fun h => ?_) <;> (conv => arg 1; whnf)))
    all_goals
      rename_i g1 g2
      have k1 := g2
      have k2 := h
      simp only [decide_eq_true_eq, decide_eq_false_iff_not] at k1 k2
      have wx : IntKind.i64.wrap (0 - x) = -x := by rw [i64w _ (by omega) (by omega)]; omega
      have wy : IntKind.i64.wrap (0 - y) = -y := by rw [i64w _ (by omega) (by omega)]; omega
    · refine enter ⟨-x, -y, 0⟩ [] ⟨(by omega : 0 ≤ -x), (by omega : -x ≤ 1099511627776), (by omega : 0 ≤ -y), (by omega : -y ≤ 1099511627776), (by decide : (0 : Int) ≤ 0), (by decide : (0 : Int) ≤ 1099511627776)⟩ List.nodup_nil ?_ True.intro ?_
      · repeat' (first | exact True.intro | exact Fit.dead _ | exact Fit.v _ | exact Fit.v' (by simp only [wx, wy]) | refine And.intro ?_ ?_)
      · show tr _
        conv => arg 1; whnf
        have go := go (decide (x < 0) != decide (y < 0)) (-x) (-y) (by omega) (by omega) (by omega) (by omega) (by simp [k1, k2, Int.neg_mul_neg, Int.neg_mul, Int.mul_neg])
        refine br (fun hs => ?_) (fun hs => ?_)
        all_goals
          conv => arg 1; whnf
          refine leaf (congrArg i64 ?_)
          simp only [show (decide (x < 0) != decide (y < 0)) = _ from hs, if_true, Bool.false_eq_true, if_false] at go
          exact go
    · refine enter ⟨-x, y, 0⟩ [] ⟨(by omega : 0 ≤ -x), (by omega : -x ≤ 1099511627776), (by omega : 0 ≤ y), (by omega : y ≤ 1099511627776), (by decide : (0 : Int) ≤ 0), (by decide : (0 : Int) ≤ 1099511627776)⟩ List.nodup_nil ?_ True.intro ?_
      · repeat' (first | exact True.intro | exact Fit.dead _ | exact Fit.v _ | exact Fit.v' (by simp only [wx, wy]) | refine And.intro ?_ ?_)
      · show tr _
        conv => arg 1; whnf
        have go := go (decide (x < 0) != decide (y < 0)) (-x) (y) (by omega) (by omega) (by omega) (by omega) (by simp [k1, k2, Int.neg_mul_neg, Int.neg_mul, Int.mul_neg])
        refine br (fun hs => ?_) (fun hs => ?_)
        all_goals
          conv => arg 1; whnf
          refine leaf (congrArg i64 ?_)
          simp only [show (decide (x < 0) != decide (y < 0)) = _ from hs, if_true, Bool.false_eq_true, if_false] at go
          exact go
    · refine enter ⟨x, -y, 0⟩ [] ⟨(by omega : 0 ≤ x), (by omega : x ≤ 1099511627776), (by omega : 0 ≤ -y), (by omega : -y ≤ 1099511627776), (by decide : (0 : Int) ≤ 0), (by decide : (0 : Int) ≤ 1099511627776)⟩ List.nodup_nil ?_ True.intro ?_
      · repeat' (first | exact True.intro | exact Fit.dead _ | exact Fit.v _ | exact Fit.v' (by simp only [wx, wy]) | refine And.intro ?_ ?_)
      · show tr _
        conv => arg 1; whnf
        have go := go (decide (x < 0) != decide (y < 0)) (x) (-y) (by omega) (by omega) (by omega) (by omega) (by simp [k1, k2, Int.neg_mul_neg, Int.neg_mul, Int.mul_neg])
        refine br (fun hs => ?_) (fun hs => ?_)
        all_goals
          conv => arg 1; whnf
          refine leaf (congrArg i64 ?_)
          simp only [show (decide (x < 0) != decide (y < 0)) = _ from hs, if_true, Bool.false_eq_true, if_false] at go
          exact go
    · refine enter ⟨x, y, 0⟩ [] ⟨(by omega : 0 ≤ x), (by omega : x ≤ 1099511627776), (by omega : 0 ≤ y), (by omega : y ≤ 1099511627776), (by decide : (0 : Int) ≤ 0), (by decide : (0 : Int) ≤ 1099511627776)⟩ List.nodup_nil ?_ True.intro ?_
      · repeat' (first | exact True.intro | exact Fit.dead _ | exact Fit.v _ | exact Fit.v' (by simp only [wx, wy]) | refine And.intro ?_ ?_)
      · show tr _
        conv => arg 1; whnf
        have go := go (decide (x < 0) != decide (y < 0)) (x) (y) (by omega) (by omega) (by omega) (by omega) (by simp [k1, k2, Int.neg_mul_neg, Int.neg_mul, Int.mul_neg])
        refine br (fun hs => ?_) (fun hs => ?_)
        all_goals
          conv => arg 1; whnf
          refine leaf (congrArg i64 ?_)
          simp only [show (decide (x < 0) != decide (y < 0)) = _ from hs, if_true, Bool.false_eq_true, if_false] at go
          exact go
end Go.Proofs.Ytohgniddfpjjfaa.E
