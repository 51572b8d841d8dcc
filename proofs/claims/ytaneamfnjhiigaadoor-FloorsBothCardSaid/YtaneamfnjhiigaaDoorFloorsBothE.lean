/- The law FloorsBoth: rising from a floor, and falling from the one below it, all floors are gone through. -/
import Derived.Test.YtaneamfnjhiigaaDoorFloorsGoE
namespace Go.Proofs.YtaneamfnjhiigaaDoor.E
open Go
set_option linter.unusedSimpArgs false
set_option linter.unusedVariables false
set_option maxRecDepth 100000
set_option maxHeartbeats 4000000
theorem count_two (b c : Nat → Bool) : ∀ l : List Nat, (l.filter fun i => b i && c i).length + (l.filter fun i => b i && !c i).length = (l.filter b).length
  | [] => rfl
  | i :: l => by
    have ih := count_two b c l
    simp only [List.filter_cons]
    cases b i <;> cases c i <;> simp <;> omega
theorem len_both {s fr : Int} (hs : okU s) : ((upL s fr 64).length + (dnL s (fr - 1) 64).length : Nat) = lenF s := by
  rw [lenF_eq, cntB_range]
  have e1 : (upL s fr 64).length = ((List.range 64).filter fun i => bt s i && decide (fr ≤ (i : Int))).length := by unfold upL; rw [List.length_map]
  have e2 : (dnL s (fr - 1) 64).length = ((List.range 64).filter fun i => bt s i && !(decide (fr ≤ (i : Int)))).length := by
    unfold dnL
    rw [List.length_map]
    have e3 : ((List.range 64).map fun i => 63 - i) = (List.range 64).reverse := by decide
    have e4 : ((List.range 64).filter fun i => bt s (63 - i) && decide (((63 - i : Nat) : Int) ≤ fr - 1)).length = (((List.range 64).map fun i => 63 - i).filter fun i => bt s i && !(decide (fr ≤ (i : Int)))).length := by
      rw [List.filter_map, List.length_map]
      congr 1
      apply List.filter_congr
      intro i _
      show _ = (bt s (63 - i) && !(decide (fr ≤ ((63 - i : Nat) : Int))))
      congr 1
      by_cases h : fr ≤ ((63 - i : Nat) : Int)
      · rw [decide_eq_true h, decide_eq_false (by omega)]; rfl
      · rw [decide_eq_false h, decide_eq_true (by omega)]; rfl
    rw [e4, e3, List.filter_reverse, List.length_reverse]
  rw [e1, e2, count_two]
  congr 2
  apply List.filter_congr
  intro i _
  exact bt_toNat hs i
/-- The nearest one is the first of either. -/
theorem near_is {s fr : Int} (hs : okU s) (h0 : 0 ≤ fr) (h1 : fr ≤ 63) : (nearF s fr).2 = decide (0 < (upL s fr 64).length + (dnL s (fr - 1) 64).length) ∧ ((nearF s fr).2 = true → (nearF s fr).1 = (upL s fr 64).headD (-1) ∨ (nearF s fr).1 = (dnL s (fr - 1) 64).headD (-1)) := by
  have ha : clampF fr = fr := by unfold clampF mm; simp only; split <;> split <;> omega
  obtain ⟨t, rfl⟩ : ∃ t : Nat, fr = (t : Int) := ⟨fr.toNat, by omega⟩
  have D0 : DnI s ((t : Int) - 1) 0 (bits .and .u64 s (toF (IntKind.i64.wrap ((t : Int) - 1 + 1)))) := dn_zero (by omega) (wrap_i64' _ (by omega) (by omega))
  generalize bits .and .u64 s (toF (IntKind.i64.wrap ((t : Int) - 1 + 1))) = y at D0
  unfold nearF
  rw [ha]
  by_cases hb : bt s t = true
  · obtain ⟨r, hr⟩ := dn_at (fr := (t : Int)) (show t < 64 by omega) hb (by omega) fun i h2 h3 h4 => by omega
    obtain ⟨r', hr'⟩ := up_at (fr := (t : Int)) (show t < 64 by omega) hb (by omega) fun i h2 h3 => by omega
    rw [hr, hr']
    simp only
    rw [decide_eq_false (by omega : ¬ (t : Int) - (t : Int) < (t : Int) - (t : Int))]
    exact ⟨(decide_eq_true (by simp; omega)).symm, fun _ => .inl rfl⟩
  · have hb : bt s t = false := by simpa using hb
    by_cases hy : y = 0
    · subst hy
      have e1 := D0.fin
      have none : ∀ i : Nat, i < 64 → (i : Int) ≤ (t : Int) → bt s i = false := fun i h2 h3 => by
        by_cases hit : i = t
        · rw [hit]; exact hb
        · have := D0.bt i h2
          rw [bt_zero, decide_eq_true (by omega : (i : Int) ≤ (t : Int) - 1), decide_eq_true (by omega : i < 64 - 0)] at this
          simpa using this.symm
      rw [dn_no none, e1, dnL_zero]
      cases hu : upL s (t : Int) 64 with
      | nil => exact ⟨rfl, fun h => (by cases h)⟩
      | cons x l => exact ⟨(decide_eq_true (by simp)).symm, fun _ => .inl rfl⟩
    · obtain ⟨r, hr⟩ := dn_head D0 hy
      obtain ⟨l1, l2, l3⟩ := top_bt D0.ok hy
      obtain ⟨n1, n2, n3, n4, n5, n6⟩ := D0.next hy
      obtain ⟨r', hr'⟩ := dn_at (fr := (t : Int)) l1 n3 (by omega) fun i h2 h3 h4 => by
        by_cases hit : i = t
        · rw [hit]; exact hb
        · have := D0.bt i h3
          rw [l3 i h2, decide_eq_true (by omega : (i : Int) ≤ (t : Int) - 1), decide_eq_true (by omega : i < 64 - 0)] at this
          simpa using this.symm
      rw [hr, hr']
      cases hu : upL s (t : Int) 64 with
      | nil => exact ⟨(decide_eq_true (by simp)).symm, fun _ => .inr rfl⟩
      | cons x l =>
        simp only
        cases decide (x - (t : Int) < (t : Int) - (topI y : Int)) with
        | true => exact ⟨(decide_eq_true (by simp; omega)).symm, fun _ => .inl rfl⟩
        | false => exact ⟨(decide_eq_true (by simp; omega)).symm, fun _ => .inr rfl⟩
noncomputable def XBo : Cx := ((((XFi.add 6 .pure (pureCtr (fn0 (giv true (boo true))))).add 10 .pure (pureCtr nearG)).add 17 .pure (pureCtr hasG)).add 18 .pure (pureCtr withG)).add 16 .pure (pureCtr ocG)
theorem XBo_ok : CxOk Tryd.prog XBo := ((((XFi_ok.pure speaks_ok).pure near_ok).pure has_ok).pure with_ok).pure flen_ok
theorem head_snoc (l : List Int) (a : Int) : (l ++ [a]).headD (-1) = if l.length = 0 then a else l.headD (-1) := by cases l <;> simp
theorem head_neg {l : List Int} (h : ∀ x ∈ l, 0 ≤ x) : decide (l.headD (-1) < 0) = decide (l.length = 0) := by
  cases l with
  | nil => rfl
  | cons x l => exact (decide_eq_false (by have := h x List.mem_cons_self; simp; omega)).trans (decide_eq_false (by simp)).symm
theorem FloorsBoth (us : List AV) (h : areArgs tt [22, 3] us) : runF XBo Tryd.f5 us [] (boo true) [] := by
  obtain ⟨_, _, rfl, h1, _, _, rfl, h2, rfl⟩ := h
  obtain ⟨s, rfl, hs⟩ := u64_arg h1
  obtain ⟨fr, rfl, hf0, hf1⟩ := int_arg h2
  clear h1 h2
  unfold runF
  (conv => arg 1; whnf); (repeat' (first | (refine brt (by assumption) ?_; (conv => arg 1; whnf)) | (refine brf (by assumption) ?_; (conv => arg 1; whnf)) | fail))
  refine br (fun g1 => ?_) (fun g1 => ?_)
  · (conv => arg 1; whnf); (repeat' (first | (refine brt (by assumption) ?_; (conv => arg 1; whnf)) | (refine brf (by assumption) ?_; (conv => arg 1; whnf)) | fail))
    exact finB rfl
  have g1 := of_decide_eq_false g1
  (conv => arg 1; whnf); (repeat' (first | (refine brt (by assumption) ?_; (conv => arg 1; whnf)) | (refine brf (by assumption) ?_; (conv => arg 1; whnf)) | fail))
  refine br (fun g2 => ?_) (fun g2 => ?_)
  · (conv => arg 1; whnf); (repeat' (first | (refine brt (by assumption) ?_; (conv => arg 1; whnf)) | (refine brf (by assumption) ?_; (conv => arg 1; whnf)) | fail))
    exact finB rfl
  have g2 := of_decide_eq_false g2
  obtain ⟨x0, hx0⟩ : ∃ x, x = bits .andNot .u64 s (toF fr) := ⟨_, rfl⟩
  have U0 : UpI s fr 0 x0 := by rw [hx0]; exact up_zero s fr
  (conv => arg 1; whnf); (repeat' (first | (refine brt (by assumption) ?_; (conv => arg 1; whnf)) | (refine brf (by assumption) ?_; (conv => arg 1; whnf)) | fail))
  refine loopM [0, 4] (fun x : Nat × Int × Int => UpI s fr x.1 x.2.1 ∧ okU x.2.2 ∧ ∀ i, i < 64 → bt x.2.2 i = (bt s i && (decide (fr ≤ (i : Int)) && decide (i < x.1)))) (fun x => [(4, u64 x.2.1)]) (fun x => [(3, .lit [u64 x.2.2]), (4, .lit [i64 (upL s fr x.1).length]), (5, .lit [i64 ((upL s fr x.1).headD (-1))])]) (fun x => 64 - x.1) (0, x0, 0) ⟨U0, (show okU 0 from ⟨by decide, by decide⟩), fun i hi => by rw [bt_zero, decide_eq_false (Nat.not_lt_zero i)]; simp⟩ rfl ?_ ?_ fun x hi => ?_
  · rw [hx0]; repeat' (first | exact True.intro | exact Fit.dead _ | exact Fit.v _ | exact .i fun _ _ => rfl | exact Fit.ip | exact .p rfl | exact .q rfl | exact .s rfl | exact .y rfl | exact Fit.z | exact ⟨_, rfl, .gone _⟩ | exact ⟨_, rfl, .lrec _⟩ | exact ⟨_, rfl, .held⟩ | exact ⟨_, rfl, .tab fun _ _ => rfl⟩ | refine Fit.al ?_ | refine Fit.fl ?_ ?_ | refine ⟨_, rfl, .lit ?_⟩ | refine And.intro ?_ ?_)
  · repeat' (first | exact True.intro | exact Fit.dead _ | exact Fit.v _ | exact .i fun _ _ => rfl | exact Fit.ip | exact .p rfl | exact .q rfl | exact .s rfl | exact .y rfl | exact Fit.z | exact ⟨_, rfl, .gone _⟩ | exact ⟨_, rfl, .lrec _⟩ | exact ⟨_, rfl, .held⟩ | exact ⟨_, rfl, .tab fun _ _ => rfl⟩ | refine Fit.al ?_ | refine Fit.fl ?_ ?_ | refine ⟨_, rfl, .lit ?_⟩ | refine And.intro ?_ ?_)
  obtain ⟨m, x, S⟩ := x
  obtain ⟨hu, hS, hbS⟩ := hi
  simp only at hu hS hbS
  have cx : (decide (0 ≤ x) && decide (x < 18446744073709551616)) = true := and2 (decide_eq_true hu.ok.1) (decide_eq_true hu.ok.2)
  have hlen := upL_len s fr m
  have hneg := head_neg (l := upL s fr m) fun z hz => (up_mem hz hu.le).1
  (conv => arg 1; whnf)
  refine br (fun h1 => ?_) (fun h1 => ?_)
  · have hx0 : ¬ x = 0 := by simpa using h1
    obtain ⟨d1, d2, d3, d4, d5, d6⟩ := hu.next hx0
    have et : tzN x = (lowI x : Int) := by unfold tzN; rw [if_neg hx0]
    have f1 : hasF S (tzN x) = false := by rw [et, has_bt d2, hbS _ d2, decide_eq_false (by omega : ¬ lowI x < m)]; simp
    have f2 : (!hasF s (tzN x)) = false := by rw [et, has_bt d2, d3]; rfl
    have f3 : decide (tzN x < fr) = false := by rw [et]; exact decide_eq_false (by omega)
    have hw : ∀ i, i < 64 → bt (withF S (tzN x)) i = (bt s i && (decide (fr ≤ (i : Int)) && decide (i < lowI x + 1))) := fun i hi => by
      rw [et, bt_with _ (by omega) (by omega) hi, hbS i hi]
      by_cases hil : i = lowI x
      · subst hil
        rw [d3, decide_eq_true d4, decide_eq_true (by omega : lowI x < lowI x + 1)]; simp
      · rw [decide_eq_false (by omega : ¬ (lowI x : Int) = (i : Int)), Bool.or_false]
        have := hu.bt i hi
        by_cases him : i < m
        · rw [decide_eq_true him, decide_eq_true (by omega : i < lowI x + 1)]
        · rw [decide_eq_false him]
          by_cases hlt : i < lowI x
          · rw [(low_bt hu.ok hx0).2.2 i hlt, decide_eq_true (by omega : m ≤ i)] at this
            rw [Bool.and_true] at this
            rw [← Bool.and_assoc, ← Bool.and_assoc, this.symm]; rfl
          · rw [decide_eq_false (by omega : ¬ i < lowI x + 1)]
    have el : (upL s fr (lowI x + 1)).length = (upL s fr m).length + 1 := by rw [d5, List.length_append]; rfl
    have eh := head_snoc (upL s fr m) (lowI x : Int)
    rw [← d5] at eh
    cases hc : decide ((upL s fr m).headD (-1) < 0) with
    | true =>
      have h0 : (upL s fr m).length = 0 := of_decide_eq_true (hneg.symm.trans hc)
      rw [if_pos h0] at eh
      (conv => arg 1; whnf); (repeat' (first | (refine brt (by assumption) ?_; (conv => arg 1; whnf)) | (refine brf (by assumption) ?_; (conv => arg 1; whnf)) | fail))
      refine again (lowI x + 1, bits .and .u64 x (IntKind.u64.wrap (x - 1)), withF S (tzN x)) [0, 1, 2, 3, 4, 5, 6, 7, 8, 9] ⟨d6, okU_with _ _, hw⟩ (by show 64 - (lowI x + 1) < 64 - m; omega) (by decide) ?_ ?_ rfl
      · repeat' (first | exact True.intro | exact Fit.dead _ | exact Fit.v _ | exact .i fun _ _ => rfl | exact Fit.ip | exact .p rfl | exact .q rfl | exact .s rfl | exact .y rfl | exact Fit.z | exact ⟨_, rfl, .gone _⟩ | exact ⟨_, rfl, .lrec _⟩ | exact ⟨_, rfl, .held⟩ | exact ⟨_, rfl, .tab fun _ _ => rfl⟩ | refine Fit.al ?_ | refine Fit.fl ?_ ?_ | refine ⟨_, rfl, .lit ?_⟩ | refine And.intro ?_ ?_)
      · repeat' (first | exact True.intro | exact Fit.dead _ | exact Fit.v _ | exact .i fun _ _ => rfl | exact Fit.ip | exact .p rfl | exact .q rfl | exact .s rfl | exact .y rfl | exact Fit.z | exact ⟨_, rfl, .gone _⟩ | exact ⟨_, rfl, .lrec _⟩ | exact ⟨_, rfl, .held⟩ | exact ⟨_, rfl, .tab fun _ _ => rfl⟩ | refine Fit.al ?_ | refine Fit.fl ?_ ?_ | refine ⟨_, rfl, .lit ?_⟩ | refine And.intro ?_ ?_)
        · exact Fit.v' (congrArg (Value.int .i64) (by simp only; rw [el, nxt _ (by omega)]))
        · exact Fit.v' (congrArg (Value.int .i64) (by simp only; rw [eh, et]))
    | false =>
      have h0 : ¬ (upL s fr m).length = 0 := of_decide_eq_false (hneg.symm.trans hc)
      rw [if_neg h0] at eh
      (conv => arg 1; whnf); (repeat' (first | (refine brt (by assumption) ?_; (conv => arg 1; whnf)) | (refine brf (by assumption) ?_; (conv => arg 1; whnf)) | fail))
      refine again (lowI x + 1, bits .and .u64 x (IntKind.u64.wrap (x - 1)), withF S (tzN x)) [0, 1, 2, 3, 4, 5, 6, 7, 8, 9] ⟨d6, okU_with _ _, hw⟩ (by show 64 - (lowI x + 1) < 64 - m; omega) (by decide) ?_ ?_ rfl
      · repeat' (first | exact True.intro | exact Fit.dead _ | exact Fit.v _ | exact .i fun _ _ => rfl | exact Fit.ip | exact .p rfl | exact .q rfl | exact .s rfl | exact .y rfl | exact Fit.z | exact ⟨_, rfl, .gone _⟩ | exact ⟨_, rfl, .lrec _⟩ | exact ⟨_, rfl, .held⟩ | exact ⟨_, rfl, .tab fun _ _ => rfl⟩ | refine Fit.al ?_ | refine Fit.fl ?_ ?_ | refine ⟨_, rfl, .lit ?_⟩ | refine And.intro ?_ ?_)
      · repeat' (first | exact True.intro | exact Fit.dead _ | exact Fit.v _ | exact .i fun _ _ => rfl | exact Fit.ip | exact .p rfl | exact .q rfl | exact .s rfl | exact .y rfl | exact Fit.z | exact ⟨_, rfl, .gone _⟩ | exact ⟨_, rfl, .lrec _⟩ | exact ⟨_, rfl, .held⟩ | exact ⟨_, rfl, .tab fun _ _ => rfl⟩ | refine Fit.al ?_ | refine Fit.fl ?_ ?_ | refine ⟨_, rfl, .lit ?_⟩ | refine And.intro ?_ ?_)
        · exact Fit.v' (congrArg (Value.int .i64) (by simp only; rw [el, nxt _ (by omega)]))
        · exact Fit.v' (congrArg (Value.int .i64) (by simp only; rw [eh]))
  have hx0 : x = 0 := by simpa using h1
  subst hx0
  have eU := hu.fin
  have hbU : ∀ i, i < 64 → bt S i = (bt s i && decide (fr ≤ (i : Int))) := fun i hi => by
    rw [hbS i hi]
    by_cases him : i < m
    · rw [decide_eq_true him, Bool.and_true]
    · have := hu.bt i hi
      rw [bt_zero, decide_eq_true (by omega : m ≤ i), Bool.and_true] at this
      rw [← Bool.and_assoc, ← this]; rfl
  have q1 : decide (IntKind.i64.wrap (fr - 1) < 64) = true := by rw [wrap_i64' _ (by omega) (by omega)]; exact decide_eq_true (by omega)
  obtain ⟨z0, hz0⟩ : ∃ z, z = bits .and .u64 s (toF (IntKind.i64.wrap (IntKind.i64.wrap (fr - 1) + 1))) := ⟨_, rfl⟩
  have Z0 : DnI s (fr - 1) 0 z0 := by rw [hz0, wrap_i64' (fr - 1) (by omega) (by omega)]; exact dn_zero (by omega) (wrap_i64' _ (by omega) (by omega))
  rw [← eU]
  rw [← eU] at hlen
  (conv => arg 1; whnf); (repeat' (first | (refine brt (by assumption) ?_; (conv => arg 1; whnf)) | (refine brf (by assumption) ?_; (conv => arg 1; whnf)) | fail))
  refine leave ?_
  show tr _
  (conv => arg 1; whnf); (repeat' (first | (refine brt (by assumption) ?_; (conv => arg 1; whnf)) | (refine brf (by assumption) ?_; (conv => arg 1; whnf)) | fail))
  refine loopM [0, 4] (fun x : Nat × Int × Int => DnI s (fr - 1) x.1 x.2.1 ∧ okU x.2.2 ∧ ∀ i, i < 64 → bt x.2.2 i = (bt s i && (decide (fr ≤ (i : Int)) || decide (64 - x.1 ≤ i)))) (fun x => [(4, u64 x.2.1)]) (fun x => [(3, .lit [u64 x.2.2]), (4, .lit [i64 ((upL s fr 64).length + (dnL s (fr - 1) x.1).length : Nat)]), (6, .lit [i64 ((dnL s (fr - 1) x.1).headD (-1))])]) (fun x => 64 - x.1) (0, z0, S) ⟨Z0, hS, fun i hi => by rw [hbU i hi, decide_eq_false (by omega : ¬ 64 - 0 ≤ i), Bool.or_false]⟩ rfl ?_ ?_ fun x hi => ?_
  · repeat' (first | exact True.intro | exact Fit.dead _ | exact Fit.v _ | exact .i fun _ _ => rfl | exact Fit.ip | exact .p rfl | exact .q rfl | exact .s rfl | exact .y rfl | exact Fit.z | exact ⟨_, rfl, .gone _⟩ | exact ⟨_, rfl, .lrec _⟩ | exact ⟨_, rfl, .held⟩ | exact ⟨_, rfl, .tab fun _ _ => rfl⟩ | refine Fit.al ?_ | refine Fit.fl ?_ ?_ | refine ⟨_, rfl, .lit ?_⟩ | refine And.intro ?_ ?_)
    exact Fit.v' (congrArg (Value.int .u64) hz0)
  · repeat' (first | exact True.intro | exact Fit.dead _ | exact Fit.v _ | exact .i fun _ _ => rfl | exact Fit.ip | exact .p rfl | exact .q rfl | exact .s rfl | exact .y rfl | exact Fit.z | exact ⟨_, rfl, .gone _⟩ | exact ⟨_, rfl, .lrec _⟩ | exact ⟨_, rfl, .held⟩ | exact ⟨_, rfl, .tab fun _ _ => rfl⟩ | refine Fit.al ?_ | refine Fit.fl ?_ ?_ | refine ⟨_, rfl, .lit ?_⟩ | refine And.intro ?_ ?_)
  obtain ⟨j, y, S'⟩ := x
  obtain ⟨hd, hS', hbS'⟩ := hi
  simp only at hd hS' hbS'
  have cy : (decide (0 ≤ y) && decide (y < 18446744073709551616)) = true := and2 (decide_eq_true hd.ok.1) (decide_eq_true hd.ok.2)
  have hlen' := dnL_len s (fr - 1) j
  have hneg' := head_neg (l := dnL s (fr - 1) j) fun z hz => (dn_mem hz).1
  (conv => arg 1; whnf)
  refine br (fun h1 => ?_) (fun h1 => ?_)
  · have hy0 : ¬ y = 0 := by simpa using h1
    obtain ⟨d1, d2, d3, d4, d5, d6⟩ := hd.next hy0
    have et : IntKind.i64.wrap (lenI y - 1) = (topI y : Int) := topV hd.ok hy0
    have f1 : hasF S' (IntKind.i64.wrap (lenI y - 1)) = false := by rw [et, has_bt d1, hbS' _ d1, decide_eq_false (by omega : ¬ fr ≤ (topI y : Int)), decide_eq_false (by have := hd.le; omega : ¬ 64 - j ≤ topI y)]; simp
    have f2 : (!hasF s (IntKind.i64.wrap (lenI y - 1))) = false := by rw [et, has_bt d1, d3]; rfl
    have f3 : decide (fr ≤ IntKind.i64.wrap (lenI y - 1)) = false := by rw [et]; exact decide_eq_false (by omega)
    have hw : ∀ i, i < 64 → bt (withF S' (IntKind.i64.wrap (lenI y - 1))) i = (bt s i && (decide (fr ≤ (i : Int)) || decide (64 - (63 - topI y + 1) ≤ i))) := fun i hi => by
      rw [et, bt_with _ (by omega) (by omega) hi, hbS' i hi]
      by_cases hil : i = topI y
      · subst hil
        rw [d3, decide_eq_true (by omega : 64 - (63 - topI y + 1) ≤ topI y)]; simp
      · rw [decide_eq_false (by omega : ¬ (topI y : Int) = (i : Int)), Bool.or_false]
        by_cases hf : fr ≤ (i : Int)
        · rw [decide_eq_true hf]; rfl
        · rw [decide_eq_false hf]
          have := hd.bt i hi
          rw [decide_eq_true (by omega : (i : Int) ≤ fr - 1)] at this
          by_cases him : 64 - j ≤ i
          · rw [decide_eq_true him, decide_eq_true (by omega : 64 - (63 - topI y + 1) ≤ i)]
          · rw [decide_eq_false him]
            by_cases hlt : topI y < i
            · rw [(top_bt hd.ok hy0).2.2 i hlt, decide_eq_true (by omega : i < 64 - j)] at this
              have e : bt s i = false := by simpa using this.symm
              rw [e]; rfl
            · rw [decide_eq_false (by omega : ¬ 64 - (63 - topI y + 1) ≤ i)]
    have el : (dnL s (fr - 1) (63 - topI y + 1)).length = (dnL s (fr - 1) j).length + 1 := by rw [d5, List.length_append]; rfl
    have eh := head_snoc (dnL s (fr - 1) j) (topI y : Int)
    rw [← d5] at eh
    have en : (((upL s fr 64).length + (dnL s (fr - 1) (63 - topI y + 1)).length : Nat) : Int) = IntKind.i64.wrap ((((upL s fr 64).length + (dnL s (fr - 1) j).length : Nat) : Int) + 1) := by
      have := upL_len s fr 64
      rw [el, nxt _ (by have := hd.le; omega)]; rfl
    cases hc : decide ((dnL s (fr - 1) j).headD (-1) < 0) with
    | true =>
      have h0 : (dnL s (fr - 1) j).length = 0 := of_decide_eq_true (hneg'.symm.trans hc)
      rw [if_pos h0] at eh
      (conv => arg 1; whnf); (repeat' (first | (refine brt (by assumption) ?_; (conv => arg 1; whnf)) | (refine brf (by assumption) ?_; (conv => arg 1; whnf)) | fail))
      refine again (63 - topI y + 1, woutF y (topI y : Int), withF S' (IntKind.i64.wrap (lenI y - 1))) (List.range 13) ⟨d6, okU_with _ _, hw⟩ (by show 64 - (63 - topI y + 1) < 64 - j; omega) (by decide) ?_ ?_ rfl
      · repeat' (first | exact True.intro | exact Fit.dead _ | exact Fit.v _ | exact .i fun _ _ => rfl | exact Fit.ip | exact .p rfl | exact .q rfl | exact .s rfl | exact .y rfl | exact Fit.z | exact ⟨_, rfl, .gone _⟩ | exact ⟨_, rfl, .lrec _⟩ | exact ⟨_, rfl, .held⟩ | exact ⟨_, rfl, .tab fun _ _ => rfl⟩ | refine Fit.al ?_ | refine Fit.fl ?_ ?_ | refine ⟨_, rfl, .lit ?_⟩ | refine And.intro ?_ ?_)
        exact Fit.v' (congrArg (fun z => Value.int .u64 (woutF y z)) et.symm)
      · repeat' (first | exact True.intro | exact Fit.dead _ | exact Fit.v _ | exact .i fun _ _ => rfl | exact Fit.ip | exact .p rfl | exact .q rfl | exact .s rfl | exact .y rfl | exact Fit.z | exact ⟨_, rfl, .gone _⟩ | exact ⟨_, rfl, .lrec _⟩ | exact ⟨_, rfl, .held⟩ | exact ⟨_, rfl, .tab fun _ _ => rfl⟩ | refine Fit.al ?_ | refine Fit.fl ?_ ?_ | refine ⟨_, rfl, .lit ?_⟩ | refine And.intro ?_ ?_)
        · exact Fit.v' (congrArg (Value.int .i64) en)
        · exact Fit.v' (congrArg (Value.int .i64) (by simp only; rw [eh, et]))
    | false =>
      have h0 : ¬ (dnL s (fr - 1) j).length = 0 := of_decide_eq_false (hneg'.symm.trans hc)
      rw [if_neg h0] at eh
      (conv => arg 1; whnf); (repeat' (first | (refine brt (by assumption) ?_; (conv => arg 1; whnf)) | (refine brf (by assumption) ?_; (conv => arg 1; whnf)) | fail))
      refine again (63 - topI y + 1, woutF y (topI y : Int), withF S' (IntKind.i64.wrap (lenI y - 1))) (List.range 13) ⟨d6, okU_with _ _, hw⟩ (by show 64 - (63 - topI y + 1) < 64 - j; omega) (by decide) ?_ ?_ rfl
      · repeat' (first | exact True.intro | exact Fit.dead _ | exact Fit.v _ | exact .i fun _ _ => rfl | exact Fit.ip | exact .p rfl | exact .q rfl | exact .s rfl | exact .y rfl | exact Fit.z | exact ⟨_, rfl, .gone _⟩ | exact ⟨_, rfl, .lrec _⟩ | exact ⟨_, rfl, .held⟩ | exact ⟨_, rfl, .tab fun _ _ => rfl⟩ | refine Fit.al ?_ | refine Fit.fl ?_ ?_ | refine ⟨_, rfl, .lit ?_⟩ | refine And.intro ?_ ?_)
        exact Fit.v' (congrArg (fun z => Value.int .u64 (woutF y z)) et.symm)
      · repeat' (first | exact True.intro | exact Fit.dead _ | exact Fit.v _ | exact .i fun _ _ => rfl | exact Fit.ip | exact .p rfl | exact .q rfl | exact .s rfl | exact .y rfl | exact Fit.z | exact ⟨_, rfl, .gone _⟩ | exact ⟨_, rfl, .lrec _⟩ | exact ⟨_, rfl, .held⟩ | exact ⟨_, rfl, .tab fun _ _ => rfl⟩ | refine Fit.al ?_ | refine Fit.fl ?_ ?_ | refine ⟨_, rfl, .lit ?_⟩ | refine And.intro ?_ ?_)
        · exact Fit.v' (congrArg (Value.int .i64) en)
        · exact Fit.v' (congrArg (Value.int .i64) (by simp only; rw [eh]))
  have hy0 : y = 0 := by simpa using h1
  subst hy0
  have eD := hd.fin
  have eS : S' = s := eq_of_bt hS' hs fun i hi => by
    rw [hbS' i hi]
    by_cases hf : fr ≤ (i : Int)
    · rw [decide_eq_true hf]; simp
    · rw [decide_eq_false hf, Bool.false_or]
      by_cases him : 64 - j ≤ i
      · rw [decide_eq_true him, Bool.and_true]
      · have := hd.bt i hi
        rw [bt_zero, decide_eq_true (by omega : (i : Int) ≤ fr - 1), decide_eq_true (by omega : i < 64 - j)] at this
        have e : bt s i = false := by simpa using this.symm
        rw [e]; rfl
  subst eS
  have cs : (decide (0 ≤ S') && decide (S' < 18446744073709551616)) = true := and2 (decide_eq_true hs.1) (decide_eq_true hs.2)
  have eL := len_both (fr := fr) hs
  obtain ⟨n1, n2⟩ := near_is hs (by omega : 0 ≤ fr) (by omega : fr ≤ 63)
  rw [← eD]
  (conv => arg 1; whnf); (repeat' (first | (refine brt (by assumption) ?_; (conv => arg 1; whnf)) | (refine brf (by assumption) ?_; (conv => arg 1; whnf)) | fail))
  refine leave ?_
  show tr _
  (conv => arg 1; whnf); (repeat' (first | (refine brt (by assumption) ?_; (conv => arg 1; whnf)) | (refine brf (by assumption) ?_; (conv => arg 1; whnf)) | fail))
  have a1 : decide (S' = S') = true := decide_eq_true rfl
  have a2 : decide ((((upL S' fr 64).length + (dnL S' (fr - 1) 64).length : Nat) : Int) = lenF S') = true := decide_eq_true eL
  rcases hnf : nearF S' fr with ⟨f0, ok0⟩
  rw [hnf] at n1 n2
  simp only at n1 n2
  have q3 : decide (0 < (((upL S' fr 64).length + (dnL S' (fr - 1) 64).length : Nat) : Int)) = decide (0 < (upL S' fr 64).length + (dnL S' (fr - 1) 64).length) := decide_eq_decide.2 (by omega)
  have a3 : (ok0 == decide (0 < (((upL S' fr 64).length + (dnL S' (fr - 1) 64).length : Nat) : Int))) = true := by rw [q3, ← n1]; simp
  cases ok0 with
  | false =>
    (conv => arg 1; whnf); (repeat' (first | (refine brt (by assumption) ?_; (conv => arg 1; whnf)) | (refine brf (by assumption) ?_; (conv => arg 1; whnf)) | fail))
    exact finB rfl
  | true =>
    rcases n2 rfl with e | e
    · have a4 : decide (f0 = (upL S' fr 64).headD (-1)) = true := decide_eq_true e
      (conv => arg 1; whnf); (repeat' (first | (refine brt (by assumption) ?_; (conv => arg 1; whnf)) | (refine brf (by assumption) ?_; (conv => arg 1; whnf)) | fail))
      exact finB rfl
    · have a5 : decide (f0 = (dnL S' (fr - 1) 64).headD (-1)) = true := decide_eq_true e
      cases a4 : decide (f0 = (upL S' fr 64).headD (-1)) with
      | true =>
        (conv => arg 1; whnf); (repeat' (first | (refine brt (by assumption) ?_; (conv => arg 1; whnf)) | (refine brf (by assumption) ?_; (conv => arg 1; whnf)) | fail))
        exact finB rfl
      | false =>
        (conv => arg 1; whnf); (repeat' (first | (refine brt (by assumption) ?_; (conv => arg 1; whnf)) | (refine brf (by assumption) ?_; (conv => arg 1; whnf)) | fail))
        exact finB a5.symm
end Go.Proofs.YtaneamfnjhiigaaDoor.E
