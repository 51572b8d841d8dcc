/- The law RouteNext, by the engine. -/
import Derived.Test.YtglpeibbkkikgaaRouteCostsE
namespace Go.Proofs.Ytglpeibbkkikgaa.E
open Go NumMath
set_option linter.unusedSimpArgs false
set_option linter.unusedVariables false
set_option maxRecDepth 100000
set_option maxHeartbeats 8000000
theorem Site.travel_tri {s : Site} (hs : s.right = true) {a b c : Int} (ha : 0 ≤ a ∧ a < s.fl) (hb : 0 ≤ b ∧ b < s.fl) (hc : 0 ≤ c ∧ c < s.fl) : s.travel a c ≤ s.travel a b + s.travel b c := by
  have hr := Site.right_bd hs
  have f1 : ∀ x y : Int, 0 ≤ x ∧ x < s.fl → 0 ≤ y ∧ y < s.fl → s.travel x y = if x = y then 0 else s.st + s.sp * (if x < y then y - x else x - y) + s.so := fun x y hx hy => by
    unfold Site.travel Site.ride
    by_cases e : x = y
    · rw [if_pos (.inl e), if_pos e]
    · rw [if_neg (by omega), if_neg e]
  rw [f1 a c ha hc, f1 a b ha hb, f1 b c hb hc]
  have mono : ∀ x y : Int, x ≤ y → s.sp * x ≤ s.sp * y := fun x y h => Int.mul_le_mul_of_nonneg_left h (by omega)
  have add : ∀ x y : Int, s.sp * (x + y) = s.sp * x + s.sp * y := fun x y => Int.mul_add _ _ _
  by_cases e1 : a = c
  · rw [if_pos e1]
    have p1 := mono 0 (if a < b then b - a else a - b) (by split <;> omega)
    have p2 := mono 0 (if b < c then c - b else b - c) (by split <;> omega)
    rw [Int.mul_zero] at p1 p2
    by_cases e2 : a = b
    · by_cases e3 : b = c
      · rw [if_pos e2, if_pos e3]; omega
      · rw [if_pos e2, if_neg e3]; omega
    · by_cases e3 : b = c
      · rw [if_neg e2, if_pos e3]; omega
      · rw [if_neg e2, if_neg e3]; omega
  · rw [if_neg e1]
    by_cases e2 : a = b
    · subst e2
      rw [if_pos rfl, if_neg e1]; omega
    · by_cases e3 : b = c
      · subst e3
        rw [if_neg e2, if_pos rfl]; omega
      · rw [if_neg e2, if_neg e3]
        have p := mono (if a < c then c - a else a - c) ((if a < b then b - a else a - b) + (if b < c then c - b else b - c)) (by split <;> split <;> split <;> omega)
        rw [add] at p
        omega
/-- What is so of a car behind stops. -/
structure Way (s : Site) (r : Rdy) (m : Int) (a : Stp) : Prop where
  fl : 0 ≤ a.fl ∧ a.fl < s.fl
  lv : 0 ≤ a.lv ∧ a.lv ≤ m
  far : r.af + s.travel r.fl a.fl ≤ a.lv
  how : (a.he = -1) ∨ (0 ≤ a.he ∧ a.lv = a.he + s.op + s.wa + s.cl + 2 ∧ r.af + s.travel r.fl a.fl ≤ a.he)
theorem Way.begin {s : Site} {r : Rdy} (h1 : 0 ≤ r.fl ∧ r.fl < s.fl) (h2 : 0 ≤ r.af ∧ r.af ≤ 1000000) : Way s r 1000000 (beginS r) :=
  ⟨h1, h2, by rw [show (beginS r).fl = r.fl from rfl, Site.travel_self]; show r.af + 0 ≤ r.af; omega, .inl rfl⟩
theorem Way.next {s : Site} (hs : s.right = true) {r : Rdy} (hr : 0 ≤ r.fl ∧ r.fl < s.fl) {m : Int} {a : Stp} (h : Way s r m a) {f : Int} (hf : 0 ≤ f ∧ f < s.fl) :
    Way s r (m + 68002) (nextS s a f) ∧ (nextS s a f).fl = f ∧ a.he ≤ (nextS s a f).he ∧ r.af + s.travel r.fl f ≤ (nextS s a f).he ∧ (nextS s a f).lv = (nextS s a f).he + s.op + s.wa + s.cl + 2 ∧
    ((0 ≤ a.he ∧ a.fl = f ∧ nextS s a f = a) ∨ ((a.he < 0 ∨ a.fl ≠ f) ∧ (nextS s a f).he = a.lv + s.travel a.fl f)) ∧ (nextS s a f).he ≤ m + 65000 ∧ 0 ≤ (nextS s a f).he := by
  have hb := Site.right_bd hs
  have ht := Site.travel_bd hs a.fl f
  have h3 := Site.travel_tri hs hr h.fl hf
  obtain ⟨h1, h2, h4, h5⟩ := h
  by_cases hq : ¬ a.he = -1 ∧ a.fl = f
  · have e : nextS s a f = a := by unfold nextS; rw [decide_eq_false hq.1, decide_eq_true hq.2]; rfl
    rw [e]
    rcases h5 with h5 | ⟨h5, h6, h7⟩
    · exact absurd h5 hq.1
    · rw [← hq.2]
      exact ⟨⟨h1, by omega, h4, .inr ⟨h5, h6, h7⟩⟩, rfl, Int.le_refl _, h7, h6, .inl ⟨h5, rfl, rfl⟩, by omega, h5⟩
  · have e : nextS s a f = ⟨f, a.lv + s.travel a.fl f, a.lv + s.travel a.fl f + s.op + s.wa + s.cl + 2⟩ := by
      unfold nextS
      by_cases h6 : a.he = -1
      · rw [decide_eq_true h6]; rfl
      · have h7 : ¬ a.fl = f := fun h7 => hq ⟨h6, h7⟩
        rw [decide_eq_false h6, decide_eq_false h7]; rfl
    rw [e]
    have hle : a.he ≤ a.lv := by rcases h5 with h5 | ⟨h5, h6, h7⟩ <;> omega
    refine ⟨⟨hf, ?_, ?_, .inr ⟨?_, rfl, ?_⟩⟩, rfl, ?_, ?_, rfl, .inr ⟨?_, rfl⟩, ?_, ?_⟩ <;> (try simp only) <;> (try omega)
noncomputable def XL2 : Cx := (XL1.add 25 .pure (pureCtr beginG)).add 26 .pure (pureCtr nextG)
theorem XL2_ok : CxOk Try.prog XL2 := (XL1_ok.pure begin_ok).pure next_ok
theorem RouteNext (us : List AV) (h : areArgs tt [23, 46, 33] us) : runF XL2 Try.f6 us [] (boo true) [] := by
  obtain ⟨_, _, rfl, hs, _, _, rfl, ha, _, _, rfl, hb, rfl⟩ := h
  obtain ⟨s, rfl⟩ := site_arg hs
  obtain ⟨r, rfl⟩ := rdy_arg ha
  obtain ⟨l, rfl, hlen, hrange⟩ := ints_row hb
  clear hs ha hb
  unfold runF
  (conv => arg 1; whnf); (repeat' (first | (refine brt (by assumption) ?_; (conv => arg 1; whnf)) | (refine brf (by assumption) ?_; (conv => arg 1; whnf)) | fail))
  refine br (fun h1 => ?_) (fun h1 => ?_)
  · (conv => arg 1; whnf); (repeat' (first | (refine brt (by assumption) ?_; (conv => arg 1; whnf)) | (refine brf (by assumption) ?_; (conv => arg 1; whnf)) | fail))
    exact finB rfl
  · have h1 : (!s.right) = false := h1
    have hs : s.right = true := by simpa using h1
    have hb := Site.right_bd hs
    (conv => arg 1; whnf); (repeat' (first | (refine brt (by assumption) ?_; (conv => arg 1; whnf)) | (refine brf (by assumption) ?_; (conv => arg 1; whnf)) | fail))
    refine br (fun h2 => ?_) (fun h2 => ?_)
    · (conv => arg 1; whnf); (repeat' (first | (refine brt (by assumption) ?_; (conv => arg 1; whnf)) | (refine brf (by assumption) ?_; (conv => arg 1; whnf)) | fail))
      exact finB rfl
    · (conv => arg 1; whnf); (repeat' (first | (refine brt (by assumption) ?_; (conv => arg 1; whnf)) | (refine brf (by assumption) ?_; (conv => arg 1; whnf)) | fail))
      refine br (fun h3 => ?_) (fun h3 => ?_)
      · (conv => arg 1; whnf); (repeat' (first | (refine brt (by assumption) ?_; (conv => arg 1; whnf)) | (refine brf (by assumption) ?_; (conv => arg 1; whnf)) | fail))
        exact finB rfl
      · (conv => arg 1; whnf); (repeat' (first | (refine brt (by assumption) ?_; (conv => arg 1; whnf)) | (refine brf (by assumption) ?_; (conv => arg 1; whnf)) | fail))
        refine br (fun h4 => ?_) (fun h4 => ?_)
        · (conv => arg 1; whnf); (repeat' (first | (refine brt (by assumption) ?_; (conv => arg 1; whnf)) | (refine brf (by assumption) ?_; (conv => arg 1; whnf)) | fail))
          exact finB rfl
        · (conv => arg 1; whnf); (repeat' (first | (refine brt (by assumption) ?_; (conv => arg 1; whnf)) | (refine brf (by assumption) ?_; (conv => arg 1; whnf)) | fail))
          refine br (fun h5 => ?_) (fun h5 => ?_)
          · (conv => arg 1; whnf); (repeat' (first | (refine brt (by assumption) ?_; (conv => arg 1; whnf)) | (refine brf (by assumption) ?_; (conv => arg 1; whnf)) | fail))
            exact finB rfl
          · (conv => arg 1; whnf); (repeat' (first | (refine brt (by assumption) ?_; (conv => arg 1; whnf)) | (refine brf (by assumption) ?_; (conv => arg 1; whnf)) | fail))
            refine br (fun h6 => ?_) (fun h6 => ?_)
            · (conv => arg 1; whnf); (repeat' (first | (refine brt (by assumption) ?_; (conv => arg 1; whnf)) | (refine brf (by assumption) ?_; (conv => arg 1; whnf)) | fail))
              exact finB rfl
            · have h2 := of_decide_eq_false h2
              have h3 := of_decide_eq_false h3
              have h4 := of_decide_eq_false h4
              have h5 := of_decide_eq_false h5
              have h6 := of_decide_eq_false h6
              have hr : 0 ≤ r.fl ∧ r.fl < s.fl := by omega
              have hr2 : 0 ≤ r.af ∧ r.af ≤ 1000000 := by omega
              have c9 : (!(decide (r.fl = r.fl) && (decide ((-1 : Int) = -1) && decide (r.af = r.af)))) = false := by simp
              (conv => arg 1; whnf); (repeat' (first | (refine brt (by assumption) ?_; (conv => arg 1; whnf)) | (refine brf (by assumption) ?_; (conv => arg 1; whnf)) | fail))
              refine loopIn (fun x : Nat × Stp => x.1 ≤ l.length ∧ Way s r (1000000 + 68002 * x.1) x.2) (fun x => frm 151 [(3, .p 0 0), (4, .p 1 0), (7, .p 2 0), (52, row eI l), (53, i64 l.length), (54, i64 x.1)]) (fun x => [.lit [i64 s.fl, i64 s.ca, i64 s.st, i64 s.sp, i64 s.so, i64 s.op, i64 s.wa, i64 s.cl, i64 s.nu, i64 s.ag, i64 s.si, i64 s.bu, i64 s.pe], .lit [i64 r.fl, i64 r.af], .lit [i64 x.2.fl, i64 x.2.he, i64 x.2.lv]]) (fun x => l.length - x.1) (0, beginS r) [0, 1, 2] ⟨Nat.zero_le _, by simpa using Way.begin hr hr2⟩ (by decide) ?_ ?_ rfl fun x hi => ?_
              · repeat' (first | exact True.intro | exact Fit.dead _ | exact Fit.v _ | exact .p rfl | exact row_self eI _ | refine And.intro ?_ ?_)
              · exact ⟨⟨_, rfl, .lit (by repeat' (first | exact True.intro | exact Fit.dead _ | exact Fit.v _ | exact .i fun _ _ => rfl | exact Fit.ip | exact .p rfl | exact .q rfl | exact .s rfl | exact .y rfl | refine Fit.al ?_ | refine Fit.fl ?_ ?_ | refine And.intro ?_ ?_))⟩, ⟨_, rfl, .lit (by repeat' (first | exact True.intro | exact Fit.dead _ | exact Fit.v _ | exact .i fun _ _ => rfl | exact Fit.ip | exact .p rfl | exact .q rfl | exact .s rfl | exact .y rfl | refine Fit.al ?_ | refine Fit.fl ?_ ?_ | refine And.intro ?_ ?_))⟩, ⟨_, rfl, .lit (by repeat' (first | exact True.intro | exact Fit.dead _ | exact Fit.v _ | exact .i fun _ _ => rfl | exact Fit.ip | exact .p rfl | exact .q rfl | exact .s rfl | exact .y rfl | refine Fit.al ?_ | refine Fit.fl ?_ ?_ | refine And.intro ?_ ?_))⟩, trivial⟩
              · obtain ⟨k, a⟩ := x
                obtain ⟨hk, hw⟩ := hi
                simp only at hk hw
                (conv => arg 1; whnf)
                refine br (fun h7 => ?_) (fun h7 => ?_)
                · have hlt : k < l.length := by have := of_decide_eq_true h7; simp only at this; omega
                  have e1 : (decide (0 ≤ (k : Int)) && decide ((k : Int) < (l.length : Int))) = true := by simp only [Bool.and_eq_true, decide_eq_true_eq]; omega
                  (conv => arg 1; whnf); (repeat' (first | (refine brt (by assumption) ?_; (conv => arg 1; whnf)) | (refine brf (by assumption) ?_; (conv => arg 1; whnf)) | fail))
                  refine br (fun h8 => ?_) (fun h8 => ?_)
                  · (conv => arg 1; whnf); (repeat' (first | (refine brt (by assumption) ?_; (conv => arg 1; whnf)) | (refine brf (by assumption) ?_; (conv => arg 1; whnf)) | fail))
                    refine leaveRet ?_
                    show tr _
                    (conv => arg 1; whnf); (repeat' (first | (refine brt (by assumption) ?_; (conv => arg 1; whnf)) | (refine brf (by assumption) ?_; (conv => arg 1; whnf)) | fail))
                    exact finB rfl
                  · (conv => arg 1; whnf); (repeat' (first | (refine brt (by assumption) ?_; (conv => arg 1; whnf)) | (refine brf (by assumption) ?_; (conv => arg 1; whnf)) | fail))
                    refine br (fun h9 => ?_) (fun h9 => ?_)
                    · (conv => arg 1; whnf); (repeat' (first | (refine brt (by assumption) ?_; (conv => arg 1; whnf)) | (refine brf (by assumption) ?_; (conv => arg 1; whnf)) | fail))
                      refine leaveRet ?_
                      show tr _
                      (conv => arg 1; whnf); (repeat' (first | (refine brt (by assumption) ?_; (conv => arg 1; whnf)) | (refine brf (by assumption) ?_; (conv => arg 1; whnf)) | fail))
                      exact finB rfl
                    · have hf : 0 ≤ (l.getD (k : Int).toNat eI.dflt) ∧ (l.getD (k : Int).toNat eI.dflt) < s.fl := by
                        have h8 : ¬ (l.getD (k : Int).toNat eI.dflt) < 0 := of_decide_eq_false h8
                        have h9 : ¬ s.fl ≤ (l.getD (k : Int).toNat eI.dflt) := of_decide_eq_false h9
                        omega
                      obtain ⟨n1, n2, n3, n4, n5, n6, n7, n8⟩ := hw.next hs hr hf
                      have hlv := hw.lv
                      have c0 : (s.right && (decide (0 ≤ a.lv) && decide (a.lv ≤ 1000000000))) = true := by rw [hs]; simp only [Bool.true_and, Bool.and_eq_true, decide_eq_true_eq]; omega
                      have tb := Site.travel_bd hs r.fl (l.getD (k : Int).toNat eI.dflt)
                      have tb2 := Site.travel_bd hs a.fl (l.getD (k : Int).toNat eI.dflt)
                      have c1 : (!(decide ((nextS s a (l.getD (k : Int).toNat eI.dflt)).fl = (l.getD (k : Int).toNat eI.dflt)))) = false := by rw [n2]; simp
                      have c2 : decide ((nextS s a (l.getD (k : Int).toNat eI.dflt)).he < a.he) = false := decide_eq_false (by omega)
                      have c3 : decide ((nextS s a (l.getD (k : Int).toNat eI.dflt)).he < IntKind.i64.wrap (r.af + s.travel r.fl (l.getD (k : Int).toNat eI.dflt))) = false := by rw [i64w _ (by omega) (by omega)]; exact decide_eq_false (by omega)
                      have c4 : (!(decide ((nextS s a (l.getD (k : Int).toNat eI.dflt)).lv = IntKind.i64.wrap (IntKind.i64.wrap (IntKind.i64.wrap (IntKind.i64.wrap ((nextS s a (l.getD (k : Int).toNat eI.dflt)).he + s.op) + s.wa) + s.cl) + 2)))) = false := by
                        rw [i64w ((nextS s a (l.getD (k : Int).toNat eI.dflt)).he + s.op) (by omega) (by omega), i64w ((nextS s a (l.getD (k : Int).toNat eI.dflt)).he + s.op + s.wa) (by omega) (by omega), i64w ((nextS s a (l.getD (k : Int).toNat eI.dflt)).he + s.op + s.wa + s.cl) (by omega) (by omega), i64w _ (by omega) (by omega), n5]; simp
                      have hl6 : l.length ≤ 200 := by omega
                      have n1' : Way s r (1000000 + 68002 * ((k + 1 : Nat) : Int)) (nextS s a (l.getD (k : Int).toNat eI.dflt)) := by
                        have e : (1000000 : Int) + 68002 * ((k + 1 : Nat) : Int) = 1000000 + 68002 * (k : Int) + 68002 := by omega
                        rw [e]; exact n1
                      rcases n6 with ⟨m1, m2, m3⟩ | ⟨m1, m2⟩
                      · have d1 : decide (0 ≤ a.he) = true := decide_eq_true m1
                        have d2 : decide (a.fl = (l.getD (k : Int).toNat eI.dflt)) = true := decide_eq_true m2
                        have d3 : (!(decide ((nextS s a (l.getD (k : Int).toNat eI.dflt)).fl = a.fl) && (decide ((nextS s a (l.getD (k : Int).toNat eI.dflt)).he = a.he) && decide ((nextS s a (l.getD (k : Int).toNat eI.dflt)).lv = a.lv)))) = false := by rw [m3]; simp
                        have d4 : decide (a.he < 0) = false := decide_eq_false (by omega)
                        have d5 : (!(decide (a.fl = (l.getD (k : Int).toNat eI.dflt)))) = false := by rw [d2]; rfl
                        (conv => arg 1; whnf); (repeat' (first | (refine brt (by assumption) ?_; (conv => arg 1; whnf)) | (refine brf (by assumption) ?_; (conv => arg 1; whnf)) | fail))
                        refine again (k + 1, nextS s a (l.getD (k : Int).toNat eI.dflt)) [0, 1, 2] ⟨hlt, n1'⟩ (by show l.length - (k + 1) < l.length - k; omega) (by decide) ?_ ?_ rfl
                        · repeat' (first | exact True.intro | exact Fit.dead _ | exact Fit.v _ | exact .p rfl | exact row_self eI _ | exact Fit.v' (congrArg (Value.int .i64) (nxt k (by omega)).symm) | refine And.intro ?_ ?_)
                        · exact ⟨⟨_, rfl, .lit (by repeat' (first | exact True.intro | exact Fit.dead _ | exact Fit.v _ | exact .i fun _ _ => rfl | exact Fit.ip | exact .p rfl | exact .q rfl | exact .s rfl | exact .y rfl | refine Fit.al ?_ | refine Fit.fl ?_ ?_ | refine And.intro ?_ ?_))⟩, ⟨_, rfl, .lit (by repeat' (first | exact True.intro | exact Fit.dead _ | exact Fit.v _ | exact .i fun _ _ => rfl | exact Fit.ip | exact .p rfl | exact .q rfl | exact .s rfl | exact .y rfl | refine Fit.al ?_ | refine Fit.fl ?_ ?_ | refine And.intro ?_ ?_))⟩, ⟨_, rfl, .lit (by repeat' (first | exact True.intro | exact Fit.dead _ | exact Fit.v _ | exact .i fun _ _ => rfl | exact Fit.ip | exact .p rfl | exact .q rfl | exact .s rfl | exact .y rfl | refine Fit.al ?_ | refine Fit.fl ?_ ?_ | refine And.intro ?_ ?_))⟩, trivial⟩

                      · have d6 : (!(decide ((nextS s a (l.getD (k : Int).toNat eI.dflt)).he = IntKind.i64.wrap (a.lv + s.travel a.fl (l.getD (k : Int).toNat eI.dflt))))) = false := by rw [i64w _ (by omega) (by omega), m2]; simp
                        by_cases m3 : a.he < 0
                        · have d1 : decide (0 ≤ a.he) = false := decide_eq_false (by omega)
                          have d4 : decide (a.he < 0) = true := decide_eq_true m3
                          (conv => arg 1; whnf); (repeat' (first | (refine brt (by assumption) ?_; (conv => arg 1; whnf)) | (refine brf (by assumption) ?_; (conv => arg 1; whnf)) | fail))
                          refine again (k + 1, nextS s a (l.getD (k : Int).toNat eI.dflt)) [0, 1, 2] ⟨hlt, n1'⟩ (by show l.length - (k + 1) < l.length - k; omega) (by decide) ?_ ?_ rfl
                          · repeat' (first | exact True.intro | exact Fit.dead _ | exact Fit.v _ | exact .p rfl | exact row_self eI _ | exact Fit.v' (congrArg (Value.int .i64) (nxt k (by omega)).symm) | refine And.intro ?_ ?_)
                          · exact ⟨⟨_, rfl, .lit (by repeat' (first | exact True.intro | exact Fit.dead _ | exact Fit.v _ | exact .i fun _ _ => rfl | exact Fit.ip | exact .p rfl | exact .q rfl | exact .s rfl | exact .y rfl | refine Fit.al ?_ | refine Fit.fl ?_ ?_ | refine And.intro ?_ ?_))⟩, ⟨_, rfl, .lit (by repeat' (first | exact True.intro | exact Fit.dead _ | exact Fit.v _ | exact .i fun _ _ => rfl | exact Fit.ip | exact .p rfl | exact .q rfl | exact .s rfl | exact .y rfl | refine Fit.al ?_ | refine Fit.fl ?_ ?_ | refine And.intro ?_ ?_))⟩, ⟨_, rfl, .lit (by repeat' (first | exact True.intro | exact Fit.dead _ | exact Fit.v _ | exact .i fun _ _ => rfl | exact Fit.ip | exact .p rfl | exact .q rfl | exact .s rfl | exact .y rfl | refine Fit.al ?_ | refine Fit.fl ?_ ?_ | refine And.intro ?_ ?_))⟩, trivial⟩

                        · have d1 : decide (0 ≤ a.he) = true := decide_eq_true (by omega)
                          have d4 : decide (a.he < 0) = false := decide_eq_false m3
                          have m4 : ¬ a.fl = (l.getD (k : Int).toNat eI.dflt) := by rcases m1 with m1 | m1 <;> first | exact m1 | exact absurd m1 m3
                          have d2 : decide (a.fl = (l.getD (k : Int).toNat eI.dflt)) = false := decide_eq_false m4
                          have d5 : (!(decide (a.fl = (l.getD (k : Int).toNat eI.dflt)))) = true := by rw [d2]; rfl
                          (conv => arg 1; whnf); (repeat' (first | (refine brt (by assumption) ?_; (conv => arg 1; whnf)) | (refine brf (by assumption) ?_; (conv => arg 1; whnf)) | fail))
                          refine again (k + 1, nextS s a (l.getD (k : Int).toNat eI.dflt)) [0, 1, 2] ⟨hlt, n1'⟩ (by show l.length - (k + 1) < l.length - k; omega) (by decide) ?_ ?_ rfl
                          · repeat' (first | exact True.intro | exact Fit.dead _ | exact Fit.v _ | exact .p rfl | exact row_self eI _ | exact Fit.v' (congrArg (Value.int .i64) (nxt k (by omega)).symm) | refine And.intro ?_ ?_)
                          · exact ⟨⟨_, rfl, .lit (by repeat' (first | exact True.intro | exact Fit.dead _ | exact Fit.v _ | exact .i fun _ _ => rfl | exact Fit.ip | exact .p rfl | exact .q rfl | exact .s rfl | exact .y rfl | refine Fit.al ?_ | refine Fit.fl ?_ ?_ | refine And.intro ?_ ?_))⟩, ⟨_, rfl, .lit (by repeat' (first | exact True.intro | exact Fit.dead _ | exact Fit.v _ | exact .i fun _ _ => rfl | exact Fit.ip | exact .p rfl | exact .q rfl | exact .s rfl | exact .y rfl | refine Fit.al ?_ | refine Fit.fl ?_ ?_ | refine And.intro ?_ ?_))⟩, ⟨_, rfl, .lit (by repeat' (first | exact True.intro | exact Fit.dead _ | exact Fit.v _ | exact .i fun _ _ => rfl | exact Fit.ip | exact .p rfl | exact .q rfl | exact .s rfl | exact .y rfl | refine Fit.al ?_ | refine Fit.fl ?_ ?_ | refine And.intro ?_ ?_))⟩, trivial⟩

                · (conv => arg 1; whnf); (repeat' (first | (refine brt (by assumption) ?_; (conv => arg 1; whnf)) | (refine brf (by assumption) ?_; (conv => arg 1; whnf)) | fail))
                  refine leave ?_
                  show tr _
                  (conv => arg 1; whnf); (repeat' (first | (refine brt (by assumption) ?_; (conv => arg 1; whnf)) | (refine brf (by assumption) ?_; (conv => arg 1; whnf)) | fail))
                  exact finB rfl
end Go.Proofs.Ytglpeibbkkikgaa.E
