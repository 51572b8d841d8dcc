/- NumWithin by the engine. -/
import Derived.Test.YtohgniddfpjjfaaNumE
import Derived.Test.YtohgniddfpjjfaaERow
namespace Go.Proofs.Ytohgniddfpjjfaa.E
open Go NumMath
set_option linter.unusedSimpArgs false
set_option linter.unusedVariables false
set_option maxRecDepth 100000
set_option maxHeartbeats 4000000

def smallG : List AV → Option (Bool × AV) := fn1 dI fun a => giv true (boo (decide (-524288 < a) && decide (a < 524288)))
theorem small_ok : CtrOk Try.prog 23 (pureCtr smallG) :=
  pureCtr_ok X0_ok Try.func23 (by decide) rfl fun args u h => by
    obtain ⟨a, rfl, hv⟩ := fn1_some h
    obtain ⟨_, rfl⟩ := giv_some hv
    clear h hv
    refine ⟨rfl, rfl, ?_⟩
    unfold runF
    (conv => arg 1; whnf)
    repeat' (first | (refine brt (by assumption) ?_; (conv => arg 1; whnf)) | (refine brf (by assumption) ?_; (conv => arg 1; whnf)) | (refine br (fun h => ?_) (fun h => ?_) <;> ((conv => arg 1; whnf))))
    all_goals (refine finB ?_; simp_all; try omega)
def fullG : List AV → Option (Bool × AV) := fn1 dI fun a => giv true (boo (decide ((if lim a < 0 then -lim a else lim a) = 1099511627776)))
theorem full_ok : CtrOk Try.prog 22 (pureCtr fullG) :=
  pureCtr_ok X1_ok Try.func22 (by decide) rfl fun args u h => by
    obtain ⟨a, rfl, hv⟩ := fn1_some h
    obtain ⟨_, rfl⟩ := giv_some hv
    clear h hv
    refine ⟨rfl, rfl, ?_⟩
    have h1 := lim_ge a; have h2 := lim_le a
    have e : (decide (-1099511627776 ≤ lim a) && decide (lim a ≤ 1099511627776)) = true := by simp only [Bool.and_eq_true, decide_eq_true_eq]; omega
    unfold runF
    (conv => arg 1; whnf); (repeat' (first | (refine brt (by assumption) ?_; (conv => arg 1; whnf)) | (refine brf (by assumption) ?_; (conv => arg 1; whnf)) | fail))
    exact finB rfl
def XN0 : Cx := (X2.add 16 .pure (pureCtr subG)).add 20 .pure (pureCtr sumG)
theorem XN0_ok : CxOk Try.prog XN0 := (X2_ok.pure sub_ok).pure sum_ok
theorem speaks01_ok : CtrOk Try.prog 13 (pureCtr (fn0 (giv true (boo true)))) :=
  pureCtr_ok XN0_ok Try.func13 (by decide) rfl fun args u hh => by
    obtain ⟨rfl, hv⟩ := fn0_some hh
    obtain ⟨_, rfl⟩ := giv_some hv
    clear hh hv
    refine ⟨rfl, rfl, ?_⟩
    unfold runF
    (conv => arg 1; whnf)
    exact finB rfl
def XN : Cx := ((XN0.add 13 .pure (pureCtr (fn0 (giv true (boo true))))).add 22 .pure (pureCtr fullG)).add 23 .pure (pureCtr smallG)
theorem XN_ok : CxOk Try.prog XN := ((XN0_ok.pure speaks01_ok).pure full_ok).pure small_ok
theorem int_arg {u : AV} (h : isArg tt 3 u) : ∃ n : Int, u = i64 n ∧ -9223372036854775808 ≤ n ∧ n ≤ 9223372036854775807 := by
  obtain ⟨n, e, w⟩ := h
  exact ⟨n, (List.cons.inj e).1, wf_i64 w⟩
theorem ints_arg {u : AV} (h : isArg tt 25 u) : ∃ l : List Int, u = row eI l ∧ l.length < 281474976710656 ∧ ∀ x ∈ l, -9223372036854775808 ≤ x ∧ x ≤ 9223372036854775807 := by
  obtain ⟨m, g, e, hm, hg, hz⟩ := h
  obtain ⟨l, h1, h2, h3⟩ := row_eq eI (m := m) (g := g) (p := fun x => -9223372036854775808 ≤ x ∧ x ≤ 9223372036854775807) (fun k hk => by obtain ⟨z, hz, hw⟩ := hg k hk; exact ⟨z, hz, wf_i64 hw⟩) hz (by have : m * 1 < 281474976710656 := hm; omega)
  exact ⟨l, (List.cons.inj e).1.trans h1, h2, h3⟩
theorem sumL_bd (l : List Int) (k : Nat) (h : k ≤ l.length) : -1099511627776 ≤ sumL l k ∧ sumL l k ≤ 1099511627776 := by
  cases k with
  | zero => simp [sumL]
  | succ k => rw [sumL_succ l k (by omega)]; exact ⟨lim_ge _, lim_le _⟩
def nwQ (a b : Int) (l : List Int) (j : Nat) : Int := if j = 0 then lim (lim a + lim b) else if j = 1 then lim (lim a - lim b) else if j = 2 then lim (lim a * lim b) else sumL l l.length
theorem nwQ0 (a b : Int) (l : List Int) : nwQ a b l 0 = lim (lim a + lim b) := by unfold nwQ; rw [if_pos rfl]
theorem nwQ1 (a b : Int) (l : List Int) : nwQ a b l 1 = lim (lim a - lim b) := by unfold nwQ; rw [if_neg (by decide), if_pos rfl]
theorem nwQ2 (a b : Int) (l : List Int) : nwQ a b l 2 = lim (lim a * lim b) := by unfold nwQ; rw [if_neg (by decide), if_neg (by decide), if_pos rfl]
theorem nwQ3 (a b : Int) (l : List Int) : nwQ a b l 3 = sumL l l.length := by unfold nwQ; rw [if_neg (by decide), if_neg (by decide), if_neg (by decide)]
theorem NumWithin (us : List AV) (h : areArgs tt [3, 3, 25] us) : runF XN Try.f5 us [] (boo true) [] := by
  obtain ⟨_, _, rfl, ha, _, _, rfl, hb, _, _, rfl, hl, rfl⟩ := h
  obtain ⟨a, rfl, ha1, ha2⟩ := int_arg ha
  obtain ⟨b, rfl, hb1, hb2⟩ := int_arg hb
  obtain ⟨l, rfl, hlen, hl2⟩ := ints_arg hl
  clear ha hb hl
  have hs := sumL_bd l l.length (Nat.le_refl _)
  have hr := isRow_row eI hlen
  unfold runF
  (conv => arg 1; whnf)
  refine br (fun h => ?_) (fun h => ?_)
  · (conv => arg 1; whnf); (repeat' (first | (refine brt (by assumption) ?_; (conv => arg 1; whnf)) | (refine brf (by assumption) ?_; (conv => arg 1; whnf)) | fail))
    exact finB rfl
  · have h100 := of_decide_eq_false h
    (conv => arg 1; whnf); (repeat' (first | (refine brt (by assumption) ?_; (conv => arg 1; whnf)) | (refine brf (by assumption) ?_; (conv => arg 1; whnf)) | fail))
    have hQ : ∀ j, -1099511627776 ≤ nwQ a b l j ∧ nwQ a b l j ≤ 1099511627776 := fun j => by
      unfold nwQ
      (repeat' split) <;> first | exact ⟨lim_ge _, lim_le _⟩ | exact hs
    refine loopIn (fun k : Nat => k ≤ 4) (fun k => frm 87 [(0, i64 a), (1, i64 b), (26, .s 0 1 0 4), (27, i64 4), (28, i64 k)]) (fun _ => [.tab 1 4 fun j => [i64 (nwQ a b l j)]]) (fun k => 4 - k) 0 [0] (by decide) (by decide) ?_ ?_ rfl fun k hi => ?_
    · repeat' (first | exact True.intro | exact Fit.dead _ | exact Fit.v _ | exact .i fun _ _ => rfl | exact Fit.ip | exact .p rfl | exact .q rfl | exact .s rfl | exact .y rfl | refine Fit.al ?_ | refine Fit.fl ?_ ?_ | refine And.intro ?_ ?_)
    · refine ⟨⟨_, rfl, .tab fun j hj => ?_⟩, trivial⟩
      have : j = 0 ∨ j = 1 ∨ j = 2 ∨ j = 3 := by omega
      rcases this with rfl | rfl | rfl | rfl
      · rw [nwQ0]; rfl
      · rw [nwQ1]; rfl
      · rw [nwQ2]; rfl
      · refine Eq.trans (b := [i64 (sumL (rows eI l.length fun k => eI.enc (l.getD k eI.dflt)) (rows eI l.length fun k => eI.enc (l.getD k eI.dflt)).length)]) ?_ rfl
        rw [rows_row, nwQ3]
    · (conv => arg 1; whnf)
      refine br (fun hk => ?_) (fun hk => ?_)
      · have hk := of_decide_eq_true hk
        obtain ⟨g1, g2⟩ := hQ k
        have e1 : (decide (0 ≤ (k : Int)) && decide ((k : Int) < ((4 : Nat) : Int))) = true := by simp only [Bool.and_eq_true, decide_eq_true_eq]; omega
        have e2 : decide (1099511627776 < nwQ a b l k) = false := decide_eq_false (by omega)
        have e3 : decide (nwQ a b l k < -1099511627776) = false := decide_eq_false (by omega)
        have e4 : lim (nwQ a b l k) = nwQ a b l k := lim_id (by omega) (by omega)
        have e0 : decide (0 + (k : Int).toNat < 4) = true := decide_eq_true (by omega)
        have e6 : 0 + (k : Int).toNat = k := by omega
        generalize hn : nwQ a b l (0 + (k : Int).toNat) = n at *
        have hn' : n = nwQ a b l k := by rw [← hn, e6]
        rw [← hn'] at g1 g2
        have e2 : decide (1099511627776 < n) = false := decide_eq_false (by omega)
        have e3 : decide (n < -1099511627776) = false := decide_eq_false (by omega)
        have e4 : lim n = n := lim_id (by omega) (by omega)
        subst hn
        rcases Int.decEq (nwQ a b l (0 + (k : Int).toNat)) 1099511627776 with f1 | f1
        · have e5 := decide_eq_false f1
          have e7 : (!(decide ((if lim (nwQ a b l (0 + (k : Int).toNat)) < 0 then -lim (nwQ a b l (0 + (k : Int).toNat)) else lim (nwQ a b l (0 + (k : Int).toNat))) = 1099511627776) == decide (nwQ a b l (0 + (k : Int).toNat) = -1099511627776))) = false := by
            rw [e4]
            by_cases f2 : nwQ a b l (0 + (k : Int).toNat) = -1099511627776
            · rw [f2]; decide
            · rw [decide_eq_false f2, decide_eq_false (by split <;> omega)]; rfl
          (conv => arg 1; whnf); (repeat' (first | (refine brt (by assumption) ?_; (conv => arg 1; whnf)) | (refine brf (by assumption) ?_; (conv => arg 1; whnf)) | fail))
          refine again (k + 1) [0] ?_ ?_ (by decide) ?_ ?_ ?_
          · show k + 1 ≤ 4
            omega
          · show 4 - (k + 1) < 4 - k
            omega
          · repeat' (first | exact True.intro | exact Fit.dead _ | exact Fit.v _ | exact .i fun _ _ => rfl | exact Fit.ip | exact .p rfl | exact .q rfl | exact .s rfl | exact .y rfl | refine Fit.al ?_ | refine Fit.fl ?_ ?_ | refine And.intro ?_ ?_)
            exact Fit.v' (congrArg (Value.int .i64) (show ((k + 1 : Nat) : Int) = IntKind.i64.wrap ((k : Int) + 1) by rw [i64w _ (by omega) (by omega)]; omega))
          · exact ⟨⟨_, rfl, .tab fun j hj => rfl⟩, trivial⟩
          · rfl
        · have e5 := decide_eq_true f1
          have e7 : (!(decide ((if lim (nwQ a b l (0 + (k : Int).toNat)) < 0 then -lim (nwQ a b l (0 + (k : Int).toNat)) else lim (nwQ a b l (0 + (k : Int).toNat))) = 1099511627776) == true)) = false := by
            rw [e4, if_neg (by omega), e5]; rfl
          (conv => arg 1; whnf); (repeat' (first | (refine brt (by assumption) ?_; (conv => arg 1; whnf)) | (refine brf (by assumption) ?_; (conv => arg 1; whnf)) | fail))
          refine again (k + 1) [0] ?_ ?_ (by decide) ?_ ?_ ?_
          · show k + 1 ≤ 4
            omega
          · show 4 - (k + 1) < 4 - k
            omega
          · repeat' (first | exact True.intro | exact Fit.dead _ | exact Fit.v _ | exact .i fun _ _ => rfl | exact Fit.ip | exact .p rfl | exact .q rfl | exact .s rfl | exact .y rfl | refine Fit.al ?_ | refine Fit.fl ?_ ?_ | refine And.intro ?_ ?_)
            exact Fit.v' (congrArg (Value.int .i64) (show ((k + 1 : Nat) : Int) = IntKind.i64.wrap ((k : Int) + 1) by rw [i64w _ (by omega) (by omega)]; omega))
          · exact ⟨⟨_, rfl, .tab fun j hj => rfl⟩, trivial⟩
          · rfl
      · (conv => arg 1; whnf)
        refine leave ?_
        show tr _
        (conv => arg 1; whnf); (repeat' (first | (refine brt (by assumption) ?_; (conv => arg 1; whnf)) | (refine brf (by assumption) ?_; (conv => arg 1; whnf)) | fail))
        refine br (fun h => ?_) (fun hA => ?_)
        · (conv => arg 1; whnf); (repeat' (first | (refine brt (by assumption) ?_; (conv => arg 1; whnf)) | (refine brf (by assumption) ?_; (conv => arg 1; whnf)) | fail))
          exact finB rfl
        · (conv => arg 1; whnf); (repeat' (first | (refine brt (by assumption) ?_; (conv => arg 1; whnf)) | (refine brf (by assumption) ?_; (conv => arg 1; whnf)) | fail))
          refine br (fun h => ?_) (fun hB => ?_)
          · (conv => arg 1; whnf); (repeat' (first | (refine brt (by assumption) ?_; (conv => arg 1; whnf)) | (refine brf (by assumption) ?_; (conv => arg 1; whnf)) | fail))
            exact finB rfl
          · have hA' := hA
            have hB' := hB
            simp only [Bool.not_eq_false', Bool.and_eq_true, decide_eq_true_eq] at hA' hB'
            obtain ⟨a3, a4⟩ := hA'
            obtain ⟨b3, b4⟩ := hB'
            have e1 : decide (lim (lim a + lim b) = IntKind.i64.wrap (a + b)) = true := decide_eq_true (by rw [lim_id (a := a) (by omega) (by omega), lim_id (a := b) (by omega) (by omega), lim_id (by omega) (by omega), i64w _ (by omega) (by omega)])
            have e2 : decide (lim (lim a - lim b) = IntKind.i64.wrap (a - b)) = true := decide_eq_true (by rw [lim_id (a := a) (by omega) (by omega), lim_id (a := b) (by omega) (by omega), lim_id (by omega) (by omega), i64w _ (by omega) (by omega)])
            have m : (a * b).natAbs ≤ 524288 * 524288 := by rw [Int.natAbs_mul]; exact Nat.mul_le_mul (by omega) (by omega)
            have e3 : lim (lim a * lim b) = IntKind.i64.wrap (a * b) := by rw [lim_id (a := a) (by omega) (by omega), lim_id (a := b) (by omega) (by omega), lim_id (by omega) (by omega), i64w _ (by omega) (by omega)]
            (conv => arg 1; whnf); (repeat' (first | (refine brt (by assumption) ?_; (conv => arg 1; whnf)) | (refine brf (by assumption) ?_; (conv => arg 1; whnf)) | fail))
            refine finB ?_
            show true = decide (lim (lim a * lim b) = IntKind.i64.wrap (a * b))
            rw [e3]; simp
end Go.Proofs.Ytohgniddfpjjfaa.E
