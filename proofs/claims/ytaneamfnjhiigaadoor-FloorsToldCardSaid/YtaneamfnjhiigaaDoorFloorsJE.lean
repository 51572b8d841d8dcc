/- The document's answers on sets of floors, on: the nearest one. -/
import Derived.Test.YtaneamfnjhiigaaDoorFloorsIE
namespace Go.Proofs.YtaneamfnjhiigaaDoor.E
open Go
set_option linter.unusedSimpArgs false
set_option linter.unusedVariables false
set_option maxRecDepth 100000
set_option maxHeartbeats 4000000
theorem up_at {s fr : Int} {t : Nat} (ht : t < 64) (hb : bt s t = true) (hf : fr ≤ (t : Int)) (h : ∀ i : Nat, i < t → fr ≤ (i : Int) → bt s i = false) : ∃ r, upL s fr 64 = (t : Int) :: r := by
  obtain ⟨r, hr⟩ := upL_prefix s fr (show t + 1 ≤ 64 by omega)
  refine ⟨r, ?_⟩
  rw [hr]
  unfold upL
  rw [filter_range1 (Nat.zero_le t) (fun i _ hi => ?_) (by rw [hb, decide_eq_true hf]; rfl)]
  · rfl
  · by_cases hi' : fr ≤ (i : Int)
    · rw [h i hi hi']; rfl
    · rw [decide_eq_false hi', Bool.and_false]
theorem up_no {s fr : Int} (h : ∀ i : Nat, i < 64 → fr ≤ (i : Int) → bt s i = false) : upL s fr 64 = [] := by
  unfold upL
  rw [filter_range (Nat.zero_le 64) fun i _ hi => ?_]
  · rfl
  · by_cases hi' : fr ≤ (i : Int)
    · rw [h i hi hi']; rfl
    · rw [decide_eq_false hi', Bool.and_false]
theorem dn_at {s fr : Int} {t : Nat} (ht : t < 64) (hb : bt s t = true) (hf : (t : Int) ≤ fr) (h : ∀ i : Nat, t < i → i < 64 → (i : Int) ≤ fr → bt s i = false) : ∃ r, dnL s fr 64 = (t : Int) :: r := by
  obtain ⟨r, hr⟩ := dnL_prefix s fr (show 63 - t + 1 ≤ 64 by omega)
  refine ⟨r, ?_⟩
  rw [hr]
  have e : 63 - (63 - t) = t := by omega
  unfold dnL
  rw [filter_range1 (Nat.zero_le (63 - t)) (fun i _ hi => ?_) (by rw [e, hb, decide_eq_true hf]; rfl)]
  · simp only [List.range_zero, List.filter_nil, List.nil_append, List.map_cons, List.map_nil, e]; rfl
  · by_cases hi' : ((63 - i : Nat) : Int) ≤ fr
    · rw [h (63 - i) (by omega) (by omega) hi']; rfl
    · rw [decide_eq_false hi', Bool.and_false]
theorem dn_no {s fr : Int} (h : ∀ i : Nat, i < 64 → (i : Int) ≤ fr → bt s i = false) : dnL s fr 64 = [] := by
  unfold dnL
  rw [filter_range (Nat.zero_le 64) fun i _ hi => ?_]
  · rfl
  · by_cases hi' : ((63 - i : Nat) : Int) ≤ fr
    · rw [h (63 - i) (by omega) hi']; rfl
    · rw [decide_eq_false hi', Bool.and_false]
/-- Nothing is nearer than d. -/
def Far (s : Int) (a d : Nat) : Prop := ∀ j, j < d → (j ≤ a → bt s (a - j) = false) ∧ (a + j < 64 → bt s (a + j) = false)
def rnearF (s f : Int) : Int := cond (nearF s f).2 (nearF s f).1 (-1)
section
variable {s f : Int} {a d : Nat} (ha : clampF f = (a : Int)) (h : Far s a d)
include ha h
theorem near_low (hd : d ≤ a) (hb : bt s (a - d) = true) : rnearF s f = ((a - d : Nat) : Int) := by
  have h64 := (clamp_bd f).2
  obtain ⟨r, hr⟩ := dn_at (fr := (a : Int)) (show a - d < 64 by omega) hb (by omega) fun i h1 h2 h3 => by
    have := (h (a - i) (by omega)).1 (by omega)
    rwa [show a - (a - i) = i by omega] at this
  unfold rnearF nearF
  rw [ha, hr]
  cases hu : upL s (a : Int) 64 with
  | nil => rfl
  | cons x l =>
    obtain ⟨x0, x1, x2⟩ := up_mem (l := x) (by rw [hu]; exact List.mem_cons_self) (Nat.le_refl 64)
    have hx : bt s x.toNat = true := by
      have hm : x ∈ upL s (a : Int) 64 := by rw [hu]; exact List.mem_cons_self
      unfold upL at hm
      obtain ⟨i, hi, rfl⟩ := List.mem_map.1 hm
      have := (List.mem_filter.1 hi).2
      simp only [Bool.and_eq_true] at this
      rw [Int.toNat_natCast]; exact this.1
    have hge : (d : Int) ≤ x - a := by
      apply Int.not_lt.1
      intro hlt
      have := (h (x.toNat - a) (by omega)).2 (by omega)
      rw [show a + (x.toNat - a) = x.toNat by omega, hx] at this
      cases this
    simp only
    rw [decide_eq_false (by omega : ¬ x - (a : Int) < (a : Int) - ((a - d : Nat) : Int))]
    rfl
theorem near_high (hd : d ≤ a → bt s (a - d) = false) (hlt : a + d < 64) (hb : bt s (a + d) = true) : rnearF s f = ((a + d : Nat) : Int) := by
  obtain ⟨r, hr⟩ := up_at (fr := (a : Int)) hlt hb (by omega) fun i h1 h2 => by
    have := (h (i - a) (by omega)).2 (by omega)
    rwa [show a + (i - a) = i by omega] at this
  unfold rnearF nearF
  rw [ha, hr]
  cases hu : dnL s (a : Int) 64 with
  | nil => rfl
  | cons x l =>
    obtain ⟨x0, x1, x2⟩ := dn_mem (l := x) (j := 64) (f := (a : Int)) (by rw [hu]; exact List.mem_cons_self)
    have hx : bt s x.toNat = true := by
      have hm : x ∈ dnL s (a : Int) 64 := by rw [hu]; exact List.mem_cons_self
      unfold dnL at hm
      obtain ⟨i, hi, rfl⟩ := List.mem_map.1 hm
      have := (List.mem_filter.1 hi).2
      simp only [Bool.and_eq_true] at this
      rw [Int.toNat_natCast]; exact this.1
    have hge : (d : Int) < a - x := by
      apply Int.not_le.1
      intro hle
      rcases Nat.lt_or_ge (a - x.toNat) d with h1 | h1
      · have := (h (a - x.toNat) h1).1 (by omega)
        rw [show a - (a - x.toNat) = x.toNat by omega, hx] at this
        cases this
      · have := hd (by omega)
        rw [show a - d = x.toNat by omega, hx] at this
        cases this
    simp only
    rw [decide_eq_true (by omega : ((a + d : Nat) : Int) - (a : Int) < (a : Int) - x)]
    rfl
theorem near_not (hd : 64 ≤ d) : rnearF s f = -1 := by
  have h64 := (clamp_bd f).2
  unfold rnearF nearF
  rw [ha, up_no fun i h1 h2 => ?_, dn_no fun i h1 h2 => ?_]
  · rfl
  · have := (h (a - i) (by omega)).1 (by omega)
    rwa [show a - (a - i) = i by omega] at this
  · have := (h (i - a) (by omega)).2 (by omega)
    rwa [show a + (i - a) = i by omega] at this
end
def rnearG : List AV → Option (Bool × AV) := fn2 dU dI fun s f => giv (decide (0 ≤ s) && decide (s < 18446744073709551616)) (i64 (rnearF s f))
theorem rnear_ok : CtrOk Tryd.prog 11 (pureCtr rnearG) :=
  pureCtr_ok XFl_ok Tryd.func11 (by decide) rfl fun args u h => by
    obtain ⟨s, f, rfl, h⟩ := fn2_some h
    obtain ⟨hs, rfl⟩ := giv_some h
    refine ⟨rfl, rfl, ?_⟩
    clear h
    have hc := clamp_bd f
    obtain ⟨a, ha⟩ : ∃ a : Nat, clampF f = (a : Int) := ⟨(clampF f).toNat, by omega⟩
    have ha64 : a < 64 := by omega
    unfold runF
    (conv => arg 1; whnf)
    have h3 : (f < 0 ∧ a = 0) ∨ (0 ≤ f ∧ f ≤ 63 ∧ f = a) ∨ (63 < f ∧ a = 63) := by
      unfold clampF mm at ha
      simp only at ha
      split at ha <;> split at ha <;> omega
    have ew1 : ∀ d : Nat, d ≤ 64 → IntKind.i64.wrap ((a : Int) - (d : Int)) = (a : Int) - (d : Int) := fun d hd => wrap_i64' _ (by omega) (by omega)
    have ew2 : ∀ d : Nat, d ≤ 64 → IntKind.i64.wrap ((a : Int) + (d : Int)) = (a : Int) + (d : Int) := fun d hd => wrap_i64' _ (by omega) (by omega)
    rcases h3 with ⟨c1, c2⟩ | ⟨c1, c2, c3⟩ | ⟨c1, c2⟩
    · have d1 : decide (f < 0) = true := decide_eq_true c1
      have d0 : (0 : Int) = (a : Int) := by rw [c2]; rfl
      (conv => arg 1; whnf); (repeat' (first | (refine brt (by assumption) ?_; (conv => arg 1; whnf)) | (refine brf (by assumption) ?_; (conv => arg 1; whnf)) | fail))
      refine loopM [1, 5, 6] (fun d : Nat => d ≤ 64 ∧ Far s a d) (fun d => [(1, i64 (a : Int)), (6, i64 d)]) (fun _ => [(0, arrT (bt s))]) (fun d => 64 - d) 0 ⟨Nat.zero_le _, fun j hj => absurd hj (Nat.not_lt_zero j)⟩ rfl ?_ ?_ fun d hi => ?_
      · repeat' (first | exact True.intro | exact Fit.dead _ | exact .p rfl | exact Fit.v _ | exact Fit.v' (congrArg (Value.int .i64) d0.symm) | refine And.intro ?_ ?_)
      · exact ⟨⟨_, rfl, .tab fun i hi => (cut_arr hi).symm⟩, trivial⟩
      · obtain ⟨hd, hfar⟩ := hi
        have w1 := ew1 d hd
        have w2 := ew2 d hd
        (conv => arg 1; whnf)
        refine br (fun g => ?_) (fun g => ?_)
        · have hlt : d < 64 := by have := of_decide_eq_true g; omega
          have again' : (d ≤ a → bt s (a - d) = false) → (a + d < 64 → bt s (a + d) = false) → Far s a (d + 1) := fun q1 q2 j hj => by
            rcases Nat.lt_or_ge j d with g1 | g1
            · exact hfar j g1
            · obtain rfl : j = d := by omega
              exact ⟨q1, q2⟩
          by_cases hle : d ≤ a
          · have e1 : decide (0 ≤ IntKind.i64.wrap ((a : Int) - (d : Int))) = true := by rw [w1]; exact decide_eq_true (by omega)
            have e2 : (decide (0 ≤ IntKind.i64.wrap ((a : Int) - (d : Int))) && decide (IntKind.i64.wrap ((a : Int) - (d : Int)) < ((64 : Nat) : Int))) = true := by rw [w1]; simp only [Bool.and_eq_true, decide_eq_true_eq]; omega
            have e3 : decide ((IntKind.i64.wrap ((a : Int) - (d : Int))).toNat < 64) = true := by rw [w1]; exact decide_eq_true (by omega)
            have e4 : (IntKind.i64.wrap ((a : Int) - (d : Int))).toNat = a - d := by rw [w1]; omega
            (conv => arg 1; whnf); (repeat' (first | (refine brt (by assumption) ?_; (conv => arg 1; whnf)) | (refine brf (by assumption) ?_; (conv => arg 1; whnf)) | fail))
            refine br (fun g1 => ?_) (fun g1 => ?_)
            · have g1 : bt s (IntKind.i64.wrap ((a : Int) - (d : Int))).toNat = true := g1
              (conv => arg 1; whnf); (repeat' (first | (refine brt (by assumption) ?_; (conv => arg 1; whnf)) | (refine brf (by assumption) ?_; (conv => arg 1; whnf)) | fail))
              rw [e4] at g1
              refine leaveRet ?_
              show tr _
              (conv => arg 1; whnf); (repeat' (first | (refine brt (by assumption) ?_; (conv => arg 1; whnf)) | (refine brf (by assumption) ?_; (conv => arg 1; whnf)) | fail))
              exact finI ((near_low ha hfar hle g1).trans (by rw [w1]; omega))
            · have g1 : bt s (IntKind.i64.wrap ((a : Int) - (d : Int))).toNat = false := g1
              have g1' := g1
              rw [e4] at g1'
              by_cases hlt2 : a + d < 64
              · have f1 : decide (IntKind.i64.wrap ((a : Int) + (d : Int)) < 64) = true := by rw [w2]; exact decide_eq_true (by omega)
                have f2 : (decide (0 ≤ IntKind.i64.wrap ((a : Int) + (d : Int))) && decide (IntKind.i64.wrap ((a : Int) + (d : Int)) < ((64 : Nat) : Int))) = true := by rw [w2]; simp only [Bool.and_eq_true, decide_eq_true_eq]; omega
                have f3 : decide ((IntKind.i64.wrap ((a : Int) + (d : Int))).toNat < 64) = true := by rw [w2]; exact decide_eq_true (by omega)
                have f4 : (IntKind.i64.wrap ((a : Int) + (d : Int))).toNat = a + d := by rw [w2]; omega
                (conv => arg 1; whnf); (repeat' (first | (refine brt (by assumption) ?_; (conv => arg 1; whnf)) | (refine brf (by assumption) ?_; (conv => arg 1; whnf)) | fail))
                refine br (fun g2 => ?_) (fun g2 => ?_)
                · have g2 : bt s (IntKind.i64.wrap ((a : Int) + (d : Int))).toNat = true := g2
                  (conv => arg 1; whnf); (repeat' (first | (refine brt (by assumption) ?_; (conv => arg 1; whnf)) | (refine brf (by assumption) ?_; (conv => arg 1; whnf)) | fail))
                  rw [f4] at g2
                  refine leaveRet ?_
                  show tr _
                  (conv => arg 1; whnf); (repeat' (first | (refine brt (by assumption) ?_; (conv => arg 1; whnf)) | (refine brf (by assumption) ?_; (conv => arg 1; whnf)) | fail))
                  exact finI ((near_high ha hfar (fun _ => g1') hlt2 g2).trans (by rw [w2]; omega))
                · have g2 : bt s (IntKind.i64.wrap ((a : Int) + (d : Int))).toNat = false := g2
                  (conv => arg 1; whnf); (repeat' (first | (refine brt (by assumption) ?_; (conv => arg 1; whnf)) | (refine brf (by assumption) ?_; (conv => arg 1; whnf)) | fail))
                  rw [f4] at g2
                  refine again (d + 1) [0] ⟨hlt, again' (fun _ => g1') (fun _ => g2)⟩ (by show 64 - (d + 1) < 64 - d; omega) (by decide) ?_ ?_ rfl
                  · repeat' (first | exact True.intro | exact Fit.dead _ | exact .p rfl | exact Fit.v _ | exact Fit.v' (congrArg (Value.int .i64) (nxt d (by omega)).symm) | refine And.intro ?_ ?_)
                  · repeat' (first | exact True.intro | exact Fit.dead _ | exact Fit.v _ | exact .i fun _ _ => rfl | exact Fit.ip | exact .p rfl | exact .q rfl | exact .s rfl | exact .y rfl | exact Fit.z | exact ⟨_, rfl, .gone _⟩ | exact ⟨_, rfl, .lrec _⟩ | exact ⟨_, rfl, .held⟩ | exact ⟨_, rfl, .tab fun _ _ => rfl⟩ | refine Fit.al ?_ | refine Fit.fl ?_ ?_ | refine ⟨_, rfl, .lit ?_⟩ | refine And.intro ?_ ?_)
              · have f1 : decide (IntKind.i64.wrap ((a : Int) + (d : Int)) < 64) = false := by rw [w2]; exact decide_eq_false (by omega)
                (conv => arg 1; whnf); (repeat' (first | (refine brt (by assumption) ?_; (conv => arg 1; whnf)) | (refine brf (by assumption) ?_; (conv => arg 1; whnf)) | fail))
                refine again (d + 1) [0] ⟨hlt, again' (fun _ => g1') (fun h => absurd h hlt2)⟩ (by show 64 - (d + 1) < 64 - d; omega) (by decide) ?_ ?_ rfl
                · repeat' (first | exact True.intro | exact Fit.dead _ | exact .p rfl | exact Fit.v _ | exact Fit.v' (congrArg (Value.int .i64) (nxt d (by omega)).symm) | refine And.intro ?_ ?_)
                · repeat' (first | exact True.intro | exact Fit.dead _ | exact Fit.v _ | exact .i fun _ _ => rfl | exact Fit.ip | exact .p rfl | exact .q rfl | exact .s rfl | exact .y rfl | exact Fit.z | exact ⟨_, rfl, .gone _⟩ | exact ⟨_, rfl, .lrec _⟩ | exact ⟨_, rfl, .held⟩ | exact ⟨_, rfl, .tab fun _ _ => rfl⟩ | refine Fit.al ?_ | refine Fit.fl ?_ ?_ | refine ⟨_, rfl, .lit ?_⟩ | refine And.intro ?_ ?_)
          · have e1 : decide (0 ≤ IntKind.i64.wrap ((a : Int) - (d : Int))) = false := by rw [w1]; exact decide_eq_false (by omega)
            have g1' : d ≤ a → bt s (a - d) = false := fun h => absurd h hle
            by_cases hlt2 : a + d < 64
            · have f1 : decide (IntKind.i64.wrap ((a : Int) + (d : Int)) < 64) = true := by rw [w2]; exact decide_eq_true (by omega)
              have f2 : (decide (0 ≤ IntKind.i64.wrap ((a : Int) + (d : Int))) && decide (IntKind.i64.wrap ((a : Int) + (d : Int)) < ((64 : Nat) : Int))) = true := by rw [w2]; simp only [Bool.and_eq_true, decide_eq_true_eq]; omega
              have f3 : decide ((IntKind.i64.wrap ((a : Int) + (d : Int))).toNat < 64) = true := by rw [w2]; exact decide_eq_true (by omega)
              have f4 : (IntKind.i64.wrap ((a : Int) + (d : Int))).toNat = a + d := by rw [w2]; omega
              (conv => arg 1; whnf); (repeat' (first | (refine brt (by assumption) ?_; (conv => arg 1; whnf)) | (refine brf (by assumption) ?_; (conv => arg 1; whnf)) | fail))
              refine br (fun g2 => ?_) (fun g2 => ?_)
              · have g2 : bt s (IntKind.i64.wrap ((a : Int) + (d : Int))).toNat = true := g2
                (conv => arg 1; whnf); (repeat' (first | (refine brt (by assumption) ?_; (conv => arg 1; whnf)) | (refine brf (by assumption) ?_; (conv => arg 1; whnf)) | fail))
                rw [f4] at g2
                refine leaveRet ?_
                show tr _
                (conv => arg 1; whnf); (repeat' (first | (refine brt (by assumption) ?_; (conv => arg 1; whnf)) | (refine brf (by assumption) ?_; (conv => arg 1; whnf)) | fail))
                exact finI ((near_high ha hfar g1' hlt2 g2).trans (by rw [w2]; omega))
              · have g2 : bt s (IntKind.i64.wrap ((a : Int) + (d : Int))).toNat = false := g2
                (conv => arg 1; whnf); (repeat' (first | (refine brt (by assumption) ?_; (conv => arg 1; whnf)) | (refine brf (by assumption) ?_; (conv => arg 1; whnf)) | fail))
                rw [f4] at g2
                refine again (d + 1) [0] ⟨hlt, again' g1' (fun _ => g2)⟩ (by show 64 - (d + 1) < 64 - d; omega) (by decide) ?_ ?_ rfl
                · repeat' (first | exact True.intro | exact Fit.dead _ | exact .p rfl | exact Fit.v _ | exact Fit.v' (congrArg (Value.int .i64) (nxt d (by omega)).symm) | refine And.intro ?_ ?_)
                · repeat' (first | exact True.intro | exact Fit.dead _ | exact Fit.v _ | exact .i fun _ _ => rfl | exact Fit.ip | exact .p rfl | exact .q rfl | exact .s rfl | exact .y rfl | exact Fit.z | exact ⟨_, rfl, .gone _⟩ | exact ⟨_, rfl, .lrec _⟩ | exact ⟨_, rfl, .held⟩ | exact ⟨_, rfl, .tab fun _ _ => rfl⟩ | refine Fit.al ?_ | refine Fit.fl ?_ ?_ | refine ⟨_, rfl, .lit ?_⟩ | refine And.intro ?_ ?_)
            · have f1 : decide (IntKind.i64.wrap ((a : Int) + (d : Int)) < 64) = false := by rw [w2]; exact decide_eq_false (by omega)
              (conv => arg 1; whnf); (repeat' (first | (refine brt (by assumption) ?_; (conv => arg 1; whnf)) | (refine brf (by assumption) ?_; (conv => arg 1; whnf)) | fail))
              refine again (d + 1) [0] ⟨hlt, again' g1' (fun h => absurd h hlt2)⟩ (by show 64 - (d + 1) < 64 - d; omega) (by decide) ?_ ?_ rfl
              · repeat' (first | exact True.intro | exact Fit.dead _ | exact .p rfl | exact Fit.v _ | exact Fit.v' (congrArg (Value.int .i64) (nxt d (by omega)).symm) | refine And.intro ?_ ?_)
              · repeat' (first | exact True.intro | exact Fit.dead _ | exact Fit.v _ | exact .i fun _ _ => rfl | exact Fit.ip | exact .p rfl | exact .q rfl | exact .s rfl | exact .y rfl | exact Fit.z | exact ⟨_, rfl, .gone _⟩ | exact ⟨_, rfl, .lrec _⟩ | exact ⟨_, rfl, .held⟩ | exact ⟨_, rfl, .tab fun _ _ => rfl⟩ | refine Fit.al ?_ | refine Fit.fl ?_ ?_ | refine ⟨_, rfl, .lit ?_⟩ | refine And.intro ?_ ?_)
        · have hdl : d = 64 := by have := of_decide_eq_false g; omega
          subst hdl
          (conv => arg 1; whnf); (repeat' (first | (refine brt (by assumption) ?_; (conv => arg 1; whnf)) | (refine brf (by assumption) ?_; (conv => arg 1; whnf)) | fail))
          refine leave ?_
          show tr _
          (conv => arg 1; whnf); (repeat' (first | (refine brt (by assumption) ?_; (conv => arg 1; whnf)) | (refine brf (by assumption) ?_; (conv => arg 1; whnf)) | fail))
          exact finI (near_not ha hfar (by omega))
    · have d1 : decide (f < 0) = false := decide_eq_false (by omega)
      have d2 : decide (63 < f) = false := decide_eq_false (by omega)
      have d0 : f = (a : Int) := c3
      (conv => arg 1; whnf); (repeat' (first | (refine brt (by assumption) ?_; (conv => arg 1; whnf)) | (refine brf (by assumption) ?_; (conv => arg 1; whnf)) | fail))
      refine loopM [1, 5, 6] (fun d : Nat => d ≤ 64 ∧ Far s a d) (fun d => [(1, i64 (a : Int)), (6, i64 d)]) (fun _ => [(0, arrT (bt s))]) (fun d => 64 - d) 0 ⟨Nat.zero_le _, fun j hj => absurd hj (Nat.not_lt_zero j)⟩ rfl ?_ ?_ fun d hi => ?_
      · repeat' (first | exact True.intro | exact Fit.dead _ | exact .p rfl | exact Fit.v _ | exact Fit.v' (congrArg (Value.int .i64) d0.symm) | refine And.intro ?_ ?_)
      · exact ⟨⟨_, rfl, .tab fun i hi => (cut_arr hi).symm⟩, trivial⟩
      · obtain ⟨hd, hfar⟩ := hi
        have w1 := ew1 d hd
        have w2 := ew2 d hd
        (conv => arg 1; whnf)
        refine br (fun g => ?_) (fun g => ?_)
        · have hlt : d < 64 := by have := of_decide_eq_true g; omega
          have again' : (d ≤ a → bt s (a - d) = false) → (a + d < 64 → bt s (a + d) = false) → Far s a (d + 1) := fun q1 q2 j hj => by
            rcases Nat.lt_or_ge j d with g1 | g1
            · exact hfar j g1
            · obtain rfl : j = d := by omega
              exact ⟨q1, q2⟩
          by_cases hle : d ≤ a
          · have e1 : decide (0 ≤ IntKind.i64.wrap ((a : Int) - (d : Int))) = true := by rw [w1]; exact decide_eq_true (by omega)
            have e2 : (decide (0 ≤ IntKind.i64.wrap ((a : Int) - (d : Int))) && decide (IntKind.i64.wrap ((a : Int) - (d : Int)) < ((64 : Nat) : Int))) = true := by rw [w1]; simp only [Bool.and_eq_true, decide_eq_true_eq]; omega
            have e3 : decide ((IntKind.i64.wrap ((a : Int) - (d : Int))).toNat < 64) = true := by rw [w1]; exact decide_eq_true (by omega)
            have e4 : (IntKind.i64.wrap ((a : Int) - (d : Int))).toNat = a - d := by rw [w1]; omega
            (conv => arg 1; whnf); (repeat' (first | (refine brt (by assumption) ?_; (conv => arg 1; whnf)) | (refine brf (by assumption) ?_; (conv => arg 1; whnf)) | fail))
            refine br (fun g1 => ?_) (fun g1 => ?_)
            · have g1 : bt s (IntKind.i64.wrap ((a : Int) - (d : Int))).toNat = true := g1
              (conv => arg 1; whnf); (repeat' (first | (refine brt (by assumption) ?_; (conv => arg 1; whnf)) | (refine brf (by assumption) ?_; (conv => arg 1; whnf)) | fail))
              rw [e4] at g1
              refine leaveRet ?_
              show tr _
              (conv => arg 1; whnf); (repeat' (first | (refine brt (by assumption) ?_; (conv => arg 1; whnf)) | (refine brf (by assumption) ?_; (conv => arg 1; whnf)) | fail))
              exact finI ((near_low ha hfar hle g1).trans (by rw [w1]; omega))
            · have g1 : bt s (IntKind.i64.wrap ((a : Int) - (d : Int))).toNat = false := g1
              have g1' := g1
              rw [e4] at g1'
              by_cases hlt2 : a + d < 64
              · have f1 : decide (IntKind.i64.wrap ((a : Int) + (d : Int)) < 64) = true := by rw [w2]; exact decide_eq_true (by omega)
                have f2 : (decide (0 ≤ IntKind.i64.wrap ((a : Int) + (d : Int))) && decide (IntKind.i64.wrap ((a : Int) + (d : Int)) < ((64 : Nat) : Int))) = true := by rw [w2]; simp only [Bool.and_eq_true, decide_eq_true_eq]; omega
                have f3 : decide ((IntKind.i64.wrap ((a : Int) + (d : Int))).toNat < 64) = true := by rw [w2]; exact decide_eq_true (by omega)
                have f4 : (IntKind.i64.wrap ((a : Int) + (d : Int))).toNat = a + d := by rw [w2]; omega
                (conv => arg 1; whnf); (repeat' (first | (refine brt (by assumption) ?_; (conv => arg 1; whnf)) | (refine brf (by assumption) ?_; (conv => arg 1; whnf)) | fail))
                refine br (fun g2 => ?_) (fun g2 => ?_)
                · have g2 : bt s (IntKind.i64.wrap ((a : Int) + (d : Int))).toNat = true := g2
                  (conv => arg 1; whnf); (repeat' (first | (refine brt (by assumption) ?_; (conv => arg 1; whnf)) | (refine brf (by assumption) ?_; (conv => arg 1; whnf)) | fail))
                  rw [f4] at g2
                  refine leaveRet ?_
                  show tr _
                  (conv => arg 1; whnf); (repeat' (first | (refine brt (by assumption) ?_; (conv => arg 1; whnf)) | (refine brf (by assumption) ?_; (conv => arg 1; whnf)) | fail))
                  exact finI ((near_high ha hfar (fun _ => g1') hlt2 g2).trans (by rw [w2]; omega))
                · have g2 : bt s (IntKind.i64.wrap ((a : Int) + (d : Int))).toNat = false := g2
                  (conv => arg 1; whnf); (repeat' (first | (refine brt (by assumption) ?_; (conv => arg 1; whnf)) | (refine brf (by assumption) ?_; (conv => arg 1; whnf)) | fail))
                  rw [f4] at g2
                  refine again (d + 1) [0] ⟨hlt, again' (fun _ => g1') (fun _ => g2)⟩ (by show 64 - (d + 1) < 64 - d; omega) (by decide) ?_ ?_ rfl
                  · repeat' (first | exact True.intro | exact Fit.dead _ | exact .p rfl | exact Fit.v _ | exact Fit.v' (congrArg (Value.int .i64) (nxt d (by omega)).symm) | refine And.intro ?_ ?_)
                  · repeat' (first | exact True.intro | exact Fit.dead _ | exact Fit.v _ | exact .i fun _ _ => rfl | exact Fit.ip | exact .p rfl | exact .q rfl | exact .s rfl | exact .y rfl | exact Fit.z | exact ⟨_, rfl, .gone _⟩ | exact ⟨_, rfl, .lrec _⟩ | exact ⟨_, rfl, .held⟩ | exact ⟨_, rfl, .tab fun _ _ => rfl⟩ | refine Fit.al ?_ | refine Fit.fl ?_ ?_ | refine ⟨_, rfl, .lit ?_⟩ | refine And.intro ?_ ?_)
              · have f1 : decide (IntKind.i64.wrap ((a : Int) + (d : Int)) < 64) = false := by rw [w2]; exact decide_eq_false (by omega)
                (conv => arg 1; whnf); (repeat' (first | (refine brt (by assumption) ?_; (conv => arg 1; whnf)) | (refine brf (by assumption) ?_; (conv => arg 1; whnf)) | fail))
                refine again (d + 1) [0] ⟨hlt, again' (fun _ => g1') (fun h => absurd h hlt2)⟩ (by show 64 - (d + 1) < 64 - d; omega) (by decide) ?_ ?_ rfl
                · repeat' (first | exact True.intro | exact Fit.dead _ | exact .p rfl | exact Fit.v _ | exact Fit.v' (congrArg (Value.int .i64) (nxt d (by omega)).symm) | refine And.intro ?_ ?_)
                · repeat' (first | exact True.intro | exact Fit.dead _ | exact Fit.v _ | exact .i fun _ _ => rfl | exact Fit.ip | exact .p rfl | exact .q rfl | exact .s rfl | exact .y rfl | exact Fit.z | exact ⟨_, rfl, .gone _⟩ | exact ⟨_, rfl, .lrec _⟩ | exact ⟨_, rfl, .held⟩ | exact ⟨_, rfl, .tab fun _ _ => rfl⟩ | refine Fit.al ?_ | refine Fit.fl ?_ ?_ | refine ⟨_, rfl, .lit ?_⟩ | refine And.intro ?_ ?_)
          · have e1 : decide (0 ≤ IntKind.i64.wrap ((a : Int) - (d : Int))) = false := by rw [w1]; exact decide_eq_false (by omega)
            have g1' : d ≤ a → bt s (a - d) = false := fun h => absurd h hle
            by_cases hlt2 : a + d < 64
            · have f1 : decide (IntKind.i64.wrap ((a : Int) + (d : Int)) < 64) = true := by rw [w2]; exact decide_eq_true (by omega)
              have f2 : (decide (0 ≤ IntKind.i64.wrap ((a : Int) + (d : Int))) && decide (IntKind.i64.wrap ((a : Int) + (d : Int)) < ((64 : Nat) : Int))) = true := by rw [w2]; simp only [Bool.and_eq_true, decide_eq_true_eq]; omega
              have f3 : decide ((IntKind.i64.wrap ((a : Int) + (d : Int))).toNat < 64) = true := by rw [w2]; exact decide_eq_true (by omega)
              have f4 : (IntKind.i64.wrap ((a : Int) + (d : Int))).toNat = a + d := by rw [w2]; omega
              (conv => arg 1; whnf); (repeat' (first | (refine brt (by assumption) ?_; (conv => arg 1; whnf)) | (refine brf (by assumption) ?_; (conv => arg 1; whnf)) | fail))
              refine br (fun g2 => ?_) (fun g2 => ?_)
              · have g2 : bt s (IntKind.i64.wrap ((a : Int) + (d : Int))).toNat = true := g2
                (conv => arg 1; whnf); (repeat' (first | (refine brt (by assumption) ?_; (conv => arg 1; whnf)) | (refine brf (by assumption) ?_; (conv => arg 1; whnf)) | fail))
                rw [f4] at g2
                refine leaveRet ?_
                show tr _
                (conv => arg 1; whnf); (repeat' (first | (refine brt (by assumption) ?_; (conv => arg 1; whnf)) | (refine brf (by assumption) ?_; (conv => arg 1; whnf)) | fail))
                exact finI ((near_high ha hfar g1' hlt2 g2).trans (by rw [w2]; omega))
              · have g2 : bt s (IntKind.i64.wrap ((a : Int) + (d : Int))).toNat = false := g2
                (conv => arg 1; whnf); (repeat' (first | (refine brt (by assumption) ?_; (conv => arg 1; whnf)) | (refine brf (by assumption) ?_; (conv => arg 1; whnf)) | fail))
                rw [f4] at g2
                refine again (d + 1) [0] ⟨hlt, again' g1' (fun _ => g2)⟩ (by show 64 - (d + 1) < 64 - d; omega) (by decide) ?_ ?_ rfl
                · repeat' (first | exact True.intro | exact Fit.dead _ | exact .p rfl | exact Fit.v _ | exact Fit.v' (congrArg (Value.int .i64) (nxt d (by omega)).symm) | refine And.intro ?_ ?_)
                · repeat' (first | exact True.intro | exact Fit.dead _ | exact Fit.v _ | exact .i fun _ _ => rfl | exact Fit.ip | exact .p rfl | exact .q rfl | exact .s rfl | exact .y rfl | exact Fit.z | exact ⟨_, rfl, .gone _⟩ | exact ⟨_, rfl, .lrec _⟩ | exact ⟨_, rfl, .held⟩ | exact ⟨_, rfl, .tab fun _ _ => rfl⟩ | refine Fit.al ?_ | refine Fit.fl ?_ ?_ | refine ⟨_, rfl, .lit ?_⟩ | refine And.intro ?_ ?_)
            · have f1 : decide (IntKind.i64.wrap ((a : Int) + (d : Int)) < 64) = false := by rw [w2]; exact decide_eq_false (by omega)
              (conv => arg 1; whnf); (repeat' (first | (refine brt (by assumption) ?_; (conv => arg 1; whnf)) | (refine brf (by assumption) ?_; (conv => arg 1; whnf)) | fail))
              refine again (d + 1) [0] ⟨hlt, again' g1' (fun h => absurd h hlt2)⟩ (by show 64 - (d + 1) < 64 - d; omega) (by decide) ?_ ?_ rfl
              · repeat' (first | exact True.intro | exact Fit.dead _ | exact .p rfl | exact Fit.v _ | exact Fit.v' (congrArg (Value.int .i64) (nxt d (by omega)).symm) | refine And.intro ?_ ?_)
              · repeat' (first | exact True.intro | exact Fit.dead _ | exact Fit.v _ | exact .i fun _ _ => rfl | exact Fit.ip | exact .p rfl | exact .q rfl | exact .s rfl | exact .y rfl | exact Fit.z | exact ⟨_, rfl, .gone _⟩ | exact ⟨_, rfl, .lrec _⟩ | exact ⟨_, rfl, .held⟩ | exact ⟨_, rfl, .tab fun _ _ => rfl⟩ | refine Fit.al ?_ | refine Fit.fl ?_ ?_ | refine ⟨_, rfl, .lit ?_⟩ | refine And.intro ?_ ?_)
        · have hdl : d = 64 := by have := of_decide_eq_false g; omega
          subst hdl
          (conv => arg 1; whnf); (repeat' (first | (refine brt (by assumption) ?_; (conv => arg 1; whnf)) | (refine brf (by assumption) ?_; (conv => arg 1; whnf)) | fail))
          refine leave ?_
          show tr _
          (conv => arg 1; whnf); (repeat' (first | (refine brt (by assumption) ?_; (conv => arg 1; whnf)) | (refine brf (by assumption) ?_; (conv => arg 1; whnf)) | fail))
          exact finI (near_not ha hfar (by omega))
    · have d1 : decide (f < 0) = false := decide_eq_false (by omega)
      have d2 : decide (63 < f) = true := decide_eq_true (by omega)
      have d0 : (63 : Int) = (a : Int) := by rw [c2]; rfl
      (conv => arg 1; whnf); (repeat' (first | (refine brt (by assumption) ?_; (conv => arg 1; whnf)) | (refine brf (by assumption) ?_; (conv => arg 1; whnf)) | fail))
      refine loopM [1, 5, 6] (fun d : Nat => d ≤ 64 ∧ Far s a d) (fun d => [(1, i64 (a : Int)), (6, i64 d)]) (fun _ => [(0, arrT (bt s))]) (fun d => 64 - d) 0 ⟨Nat.zero_le _, fun j hj => absurd hj (Nat.not_lt_zero j)⟩ rfl ?_ ?_ fun d hi => ?_
      · repeat' (first | exact True.intro | exact Fit.dead _ | exact .p rfl | exact Fit.v _ | exact Fit.v' (congrArg (Value.int .i64) d0.symm) | refine And.intro ?_ ?_)
      · exact ⟨⟨_, rfl, .tab fun i hi => (cut_arr hi).symm⟩, trivial⟩
      · obtain ⟨hd, hfar⟩ := hi
        have w1 := ew1 d hd
        have w2 := ew2 d hd
        (conv => arg 1; whnf)
        refine br (fun g => ?_) (fun g => ?_)
        · have hlt : d < 64 := by have := of_decide_eq_true g; omega
          have again' : (d ≤ a → bt s (a - d) = false) → (a + d < 64 → bt s (a + d) = false) → Far s a (d + 1) := fun q1 q2 j hj => by
            rcases Nat.lt_or_ge j d with g1 | g1
            · exact hfar j g1
            · obtain rfl : j = d := by omega
              exact ⟨q1, q2⟩
          by_cases hle : d ≤ a
          · have e1 : decide (0 ≤ IntKind.i64.wrap ((a : Int) - (d : Int))) = true := by rw [w1]; exact decide_eq_true (by omega)
            have e2 : (decide (0 ≤ IntKind.i64.wrap ((a : Int) - (d : Int))) && decide (IntKind.i64.wrap ((a : Int) - (d : Int)) < ((64 : Nat) : Int))) = true := by rw [w1]; simp only [Bool.and_eq_true, decide_eq_true_eq]; omega
            have e3 : decide ((IntKind.i64.wrap ((a : Int) - (d : Int))).toNat < 64) = true := by rw [w1]; exact decide_eq_true (by omega)
            have e4 : (IntKind.i64.wrap ((a : Int) - (d : Int))).toNat = a - d := by rw [w1]; omega
            (conv => arg 1; whnf); (repeat' (first | (refine brt (by assumption) ?_; (conv => arg 1; whnf)) | (refine brf (by assumption) ?_; (conv => arg 1; whnf)) | fail))
            refine br (fun g1 => ?_) (fun g1 => ?_)
            · have g1 : bt s (IntKind.i64.wrap ((a : Int) - (d : Int))).toNat = true := g1
              (conv => arg 1; whnf); (repeat' (first | (refine brt (by assumption) ?_; (conv => arg 1; whnf)) | (refine brf (by assumption) ?_; (conv => arg 1; whnf)) | fail))
              rw [e4] at g1
              refine leaveRet ?_
              show tr _
              (conv => arg 1; whnf); (repeat' (first | (refine brt (by assumption) ?_; (conv => arg 1; whnf)) | (refine brf (by assumption) ?_; (conv => arg 1; whnf)) | fail))
              exact finI ((near_low ha hfar hle g1).trans (by rw [w1]; omega))
            · have g1 : bt s (IntKind.i64.wrap ((a : Int) - (d : Int))).toNat = false := g1
              have g1' := g1
              rw [e4] at g1'
              by_cases hlt2 : a + d < 64
              · have f1 : decide (IntKind.i64.wrap ((a : Int) + (d : Int)) < 64) = true := by rw [w2]; exact decide_eq_true (by omega)
                have f2 : (decide (0 ≤ IntKind.i64.wrap ((a : Int) + (d : Int))) && decide (IntKind.i64.wrap ((a : Int) + (d : Int)) < ((64 : Nat) : Int))) = true := by rw [w2]; simp only [Bool.and_eq_true, decide_eq_true_eq]; omega
                have f3 : decide ((IntKind.i64.wrap ((a : Int) + (d : Int))).toNat < 64) = true := by rw [w2]; exact decide_eq_true (by omega)
                have f4 : (IntKind.i64.wrap ((a : Int) + (d : Int))).toNat = a + d := by rw [w2]; omega
                (conv => arg 1; whnf); (repeat' (first | (refine brt (by assumption) ?_; (conv => arg 1; whnf)) | (refine brf (by assumption) ?_; (conv => arg 1; whnf)) | fail))
                refine br (fun g2 => ?_) (fun g2 => ?_)
                · have g2 : bt s (IntKind.i64.wrap ((a : Int) + (d : Int))).toNat = true := g2
                  (conv => arg 1; whnf); (repeat' (first | (refine brt (by assumption) ?_; (conv => arg 1; whnf)) | (refine brf (by assumption) ?_; (conv => arg 1; whnf)) | fail))
                  rw [f4] at g2
                  refine leaveRet ?_
                  show tr _
                  (conv => arg 1; whnf); (repeat' (first | (refine brt (by assumption) ?_; (conv => arg 1; whnf)) | (refine brf (by assumption) ?_; (conv => arg 1; whnf)) | fail))
                  exact finI ((near_high ha hfar (fun _ => g1') hlt2 g2).trans (by rw [w2]; omega))
                · have g2 : bt s (IntKind.i64.wrap ((a : Int) + (d : Int))).toNat = false := g2
                  (conv => arg 1; whnf); (repeat' (first | (refine brt (by assumption) ?_; (conv => arg 1; whnf)) | (refine brf (by assumption) ?_; (conv => arg 1; whnf)) | fail))
                  rw [f4] at g2
                  refine again (d + 1) [0] ⟨hlt, again' (fun _ => g1') (fun _ => g2)⟩ (by show 64 - (d + 1) < 64 - d; omega) (by decide) ?_ ?_ rfl
                  · repeat' (first | exact True.intro | exact Fit.dead _ | exact .p rfl | exact Fit.v _ | exact Fit.v' (congrArg (Value.int .i64) (nxt d (by omega)).symm) | refine And.intro ?_ ?_)
                  · repeat' (first | exact True.intro | exact Fit.dead _ | exact Fit.v _ | exact .i fun _ _ => rfl | exact Fit.ip | exact .p rfl | exact .q rfl | exact .s rfl | exact .y rfl | exact Fit.z | exact ⟨_, rfl, .gone _⟩ | exact ⟨_, rfl, .lrec _⟩ | exact ⟨_, rfl, .held⟩ | exact ⟨_, rfl, .tab fun _ _ => rfl⟩ | refine Fit.al ?_ | refine Fit.fl ?_ ?_ | refine ⟨_, rfl, .lit ?_⟩ | refine And.intro ?_ ?_)
              · have f1 : decide (IntKind.i64.wrap ((a : Int) + (d : Int)) < 64) = false := by rw [w2]; exact decide_eq_false (by omega)
                (conv => arg 1; whnf); (repeat' (first | (refine brt (by assumption) ?_; (conv => arg 1; whnf)) | (refine brf (by assumption) ?_; (conv => arg 1; whnf)) | fail))
                refine again (d + 1) [0] ⟨hlt, again' (fun _ => g1') (fun h => absurd h hlt2)⟩ (by show 64 - (d + 1) < 64 - d; omega) (by decide) ?_ ?_ rfl
                · repeat' (first | exact True.intro | exact Fit.dead _ | exact .p rfl | exact Fit.v _ | exact Fit.v' (congrArg (Value.int .i64) (nxt d (by omega)).symm) | refine And.intro ?_ ?_)
                · repeat' (first | exact True.intro | exact Fit.dead _ | exact Fit.v _ | exact .i fun _ _ => rfl | exact Fit.ip | exact .p rfl | exact .q rfl | exact .s rfl | exact .y rfl | exact Fit.z | exact ⟨_, rfl, .gone _⟩ | exact ⟨_, rfl, .lrec _⟩ | exact ⟨_, rfl, .held⟩ | exact ⟨_, rfl, .tab fun _ _ => rfl⟩ | refine Fit.al ?_ | refine Fit.fl ?_ ?_ | refine ⟨_, rfl, .lit ?_⟩ | refine And.intro ?_ ?_)
          · have e1 : decide (0 ≤ IntKind.i64.wrap ((a : Int) - (d : Int))) = false := by rw [w1]; exact decide_eq_false (by omega)
            have g1' : d ≤ a → bt s (a - d) = false := fun h => absurd h hle
            by_cases hlt2 : a + d < 64
            · have f1 : decide (IntKind.i64.wrap ((a : Int) + (d : Int)) < 64) = true := by rw [w2]; exact decide_eq_true (by omega)
              have f2 : (decide (0 ≤ IntKind.i64.wrap ((a : Int) + (d : Int))) && decide (IntKind.i64.wrap ((a : Int) + (d : Int)) < ((64 : Nat) : Int))) = true := by rw [w2]; simp only [Bool.and_eq_true, decide_eq_true_eq]; omega
              have f3 : decide ((IntKind.i64.wrap ((a : Int) + (d : Int))).toNat < 64) = true := by rw [w2]; exact decide_eq_true (by omega)
              have f4 : (IntKind.i64.wrap ((a : Int) + (d : Int))).toNat = a + d := by rw [w2]; omega
              (conv => arg 1; whnf); (repeat' (first | (refine brt (by assumption) ?_; (conv => arg 1; whnf)) | (refine brf (by assumption) ?_; (conv => arg 1; whnf)) | fail))
              refine br (fun g2 => ?_) (fun g2 => ?_)
              · have g2 : bt s (IntKind.i64.wrap ((a : Int) + (d : Int))).toNat = true := g2
                (conv => arg 1; whnf); (repeat' (first | (refine brt (by assumption) ?_; (conv => arg 1; whnf)) | (refine brf (by assumption) ?_; (conv => arg 1; whnf)) | fail))
                rw [f4] at g2
                refine leaveRet ?_
                show tr _
                (conv => arg 1; whnf); (repeat' (first | (refine brt (by assumption) ?_; (conv => arg 1; whnf)) | (refine brf (by assumption) ?_; (conv => arg 1; whnf)) | fail))
                exact finI ((near_high ha hfar g1' hlt2 g2).trans (by rw [w2]; omega))
              · have g2 : bt s (IntKind.i64.wrap ((a : Int) + (d : Int))).toNat = false := g2
                (conv => arg 1; whnf); (repeat' (first | (refine brt (by assumption) ?_; (conv => arg 1; whnf)) | (refine brf (by assumption) ?_; (conv => arg 1; whnf)) | fail))
                rw [f4] at g2
                refine again (d + 1) [0] ⟨hlt, again' g1' (fun _ => g2)⟩ (by show 64 - (d + 1) < 64 - d; omega) (by decide) ?_ ?_ rfl
                · repeat' (first | exact True.intro | exact Fit.dead _ | exact .p rfl | exact Fit.v _ | exact Fit.v' (congrArg (Value.int .i64) (nxt d (by omega)).symm) | refine And.intro ?_ ?_)
                · repeat' (first | exact True.intro | exact Fit.dead _ | exact Fit.v _ | exact .i fun _ _ => rfl | exact Fit.ip | exact .p rfl | exact .q rfl | exact .s rfl | exact .y rfl | exact Fit.z | exact ⟨_, rfl, .gone _⟩ | exact ⟨_, rfl, .lrec _⟩ | exact ⟨_, rfl, .held⟩ | exact ⟨_, rfl, .tab fun _ _ => rfl⟩ | refine Fit.al ?_ | refine Fit.fl ?_ ?_ | refine ⟨_, rfl, .lit ?_⟩ | refine And.intro ?_ ?_)
            · have f1 : decide (IntKind.i64.wrap ((a : Int) + (d : Int)) < 64) = false := by rw [w2]; exact decide_eq_false (by omega)
              (conv => arg 1; whnf); (repeat' (first | (refine brt (by assumption) ?_; (conv => arg 1; whnf)) | (refine brf (by assumption) ?_; (conv => arg 1; whnf)) | fail))
              refine again (d + 1) [0] ⟨hlt, again' g1' (fun h => absurd h hlt2)⟩ (by show 64 - (d + 1) < 64 - d; omega) (by decide) ?_ ?_ rfl
              · repeat' (first | exact True.intro | exact Fit.dead _ | exact .p rfl | exact Fit.v _ | exact Fit.v' (congrArg (Value.int .i64) (nxt d (by omega)).symm) | refine And.intro ?_ ?_)
              · repeat' (first | exact True.intro | exact Fit.dead _ | exact Fit.v _ | exact .i fun _ _ => rfl | exact Fit.ip | exact .p rfl | exact .q rfl | exact .s rfl | exact .y rfl | exact Fit.z | exact ⟨_, rfl, .gone _⟩ | exact ⟨_, rfl, .lrec _⟩ | exact ⟨_, rfl, .held⟩ | exact ⟨_, rfl, .tab fun _ _ => rfl⟩ | refine Fit.al ?_ | refine Fit.fl ?_ ?_ | refine ⟨_, rfl, .lit ?_⟩ | refine And.intro ?_ ?_)
        · have hdl : d = 64 := by have := of_decide_eq_false g; omega
          subst hdl
          (conv => arg 1; whnf); (repeat' (first | (refine brt (by assumption) ?_; (conv => arg 1; whnf)) | (refine brf (by assumption) ?_; (conv => arg 1; whnf)) | fail))
          refine leave ?_
          show tr _
          (conv => arg 1; whnf); (repeat' (first | (refine brt (by assumption) ?_; (conv => arg 1; whnf)) | (refine brf (by assumption) ?_; (conv => arg 1; whnf)) | fail))
          exact finI (near_not ha hfar (by omega))
end Go.Proofs.YtaneamfnjhiigaaDoor.E
