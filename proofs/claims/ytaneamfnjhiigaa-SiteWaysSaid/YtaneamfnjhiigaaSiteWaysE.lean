/- The law of ways, by the engine. -/
import Derived.Test.YtaneamfnjhiigaaSiteTimesE
import Derived.Test.YtaneamfnjhiigaaERow
namespace Go.Proofs.Ytaneamfnjhiigaa.E
open Go NumMath
set_option linter.unusedSimpArgs false
set_option linter.unusedVariables false
set_option maxRecDepth 100000
set_option maxHeartbeats 4000000

theorem site_arg {u : AV} (h : isArg tt 23 u) : ∃ s : Site, u = s.av := by
  obtain ⟨_, ⟨_, _, rfl, ⟨a1, rfl, w1⟩, _, _, rfl, ⟨a2, rfl, w2⟩, _, _, rfl, ⟨a3, rfl, w3⟩, _, _, rfl, ⟨a4, rfl, w4⟩, _, _, rfl, ⟨a5, rfl, w5⟩, _, _, rfl, ⟨a6, rfl, w6⟩, _, _, rfl, ⟨a7, rfl, w7⟩, _, _, rfl, ⟨a8, rfl, w8⟩, _, _, rfl, ⟨a9, rfl, w9⟩, _, _, rfl, ⟨a10, rfl, w10⟩, _, _, rfl, ⟨a11, rfl, w11⟩, _, _, rfl, ⟨a12, rfl, w12⟩, _, _, rfl, ⟨a13, rfl, w13⟩, rfl⟩, rfl⟩ := h
  exact ⟨⟨a1, a2, a3, a4, a5, a6, a7, a8, a9, a10, a11, a12, a13⟩, rfl⟩
theorem int_arg {u : AV} (h : isArg tt 3 u) : ∃ n : Int, u = i64 n ∧ -9223372036854775808 ≤ n ∧ n ≤ 9223372036854775807 := by
  obtain ⟨n, e, w⟩ := h
  exact ⟨n, (List.cons.inj e).1, wf_i64 w⟩
abbrev siteB (s : Site) : Blk := .lit [i64 s.fl, i64 s.ca, i64 s.st, i64 s.sp, i64 s.so, i64 s.op, i64 s.wa, i64 s.cl, i64 s.nu, i64 s.ag, i64 s.si, i64 s.bu, i64 s.pe]
def tri (a b c : Int) (j : Nat) : Int := if j = 0 then a else if j = 1 then b else c
theorem travel_sym {s : Site} (f t : Int) : s.travel f t = s.travel t f := by
  unfold Site.travel
  by_cases h : f = t ∨ f < 0 ∨ s.fl ≤ f ∨ t < 0 ∨ s.fl ≤ t
  · rw [if_pos h, if_pos (by omega)]
  · rw [if_neg h, if_neg (show ¬ (t = f ∨ t < 0 ∨ s.fl ≤ t ∨ f < 0 ∨ s.fl ≤ f) by omega)]
    congr 1
    split <;> split <;> omega
theorem travel_out {s : Site} {f t : Int} (h : f < 0 ∨ s.fl ≤ f) : s.travel f t = 0 := by unfold Site.travel; rw [if_pos (by omega)]
theorem travel_in {s : Site} {f t : Int} (hf : 0 ≤ f ∧ f < s.fl) (ht : 0 ≤ t ∧ t < s.fl) : s.travel f t = if f = t then 0 else s.ride (if f < t then t - f else f - t) := by
  unfold Site.travel
  by_cases h : f = t
  · rw [if_pos (.inl h), if_pos h]
  · rw [if_neg (by omega), if_neg h]
theorem ride_add {s : Site} (hr : s.right = true) {x y z : Int} (hx : 0 ≤ x) (hy : 0 ≤ y) (h : z ≤ x + y) : s.sp * z ≤ s.sp * x + s.sp * y := by
  have hb := Site.right_bd hr
  rw [← Int.mul_add]
  exact Int.mul_le_mul_of_nonneg_left h (by omega)
theorem travel_bd {s : Site} (hr : s.right = true) (f t : Int) : 0 ≤ s.travel f t ∧ s.travel f t ≤ s.ride (s.fl - 1) ∧ s.ride (s.fl - 1) ≤ 65000 := by
  have hb := Site.right_bd hr
  have h2 := Site.ride_bd hr (f := s.fl - 1) (by omega) (by omega)
  unfold Site.travel
  split
  · omega
  · have h3 := Site.ride_bd hr (f := if f < t then t - f else f - t) (by split <;> omega) (by split <;> omega)
    have h4 : s.sp * (if f < t then t - f else f - t) ≤ s.sp * (s.fl - 1) := Int.mul_le_mul_of_nonneg_left (by split <;> omega) (by omega)
    refine ⟨h3.1, ?_, h2.2.1⟩
    unfold Site.ride at *
    omega
theorem travel_tri {s : Site} (hr : s.right = true) {a b c : Int} (ha : 0 ≤ a ∧ a < s.fl) (hb : 0 ≤ b ∧ b < s.fl) (hc : 0 ≤ c ∧ c < s.fl) : s.travel a c ≤ s.travel a b + s.travel b c := by
  have hs := Site.right_bd hr
  have b1 := travel_bd hr a b
  have b2 := travel_bd hr b c
  rw [travel_in ha hc, travel_in ha hb, travel_in hb hc] at *
  by_cases h1 : a = c
  · rw [if_pos h1]; omega
  · rw [if_neg h1]
    by_cases h2 : a = b
    · subst h2; rw [if_pos rfl, if_neg h1]; omega
    · by_cases h3 : b = c
      · subst h3; rw [if_neg h2, if_pos rfl]; omega
      · rw [if_neg h2, if_neg h3]
        have h4 := ride_add hr (x := if a < b then b - a else a - b) (y := if b < c then c - b else b - c) (z := if a < c then c - a else a - c) (by split <;> omega) (by split <;> omega) (by (repeat' split) <;> omega)
        unfold Site.ride
        omega
theorem SiteWays (us : List AV) (h : areArgs tt [23, 3, 3, 3, 3] us) : runF XT Try.f3 us [] (boo true) [] := by
  obtain ⟨_, _, rfl, hs, _, _, rfl, ha, _, _, rfl, hb, _, _, rfl, hc, _, _, rfl, hh, rfl⟩ := h
  obtain ⟨s, rfl⟩ := site_arg hs
  obtain ⟨a, rfl, ha1, ha2⟩ := int_arg ha
  obtain ⟨b, rfl, hb1, hb2⟩ := int_arg hb
  obtain ⟨c, rfl, hc1, hc2⟩ := int_arg hc
  obtain ⟨hold, rfl, hh1, hh2⟩ := int_arg hh
  clear hs ha hb hc hh
  unfold runF
  (conv => arg 1; whnf)
  refine br (fun h => ?_) (fun h => ?_)
  · (conv => arg 1; whnf); (repeat' (first | (refine brt (by assumption) ?_; (conv => arg 1; whnf)) | (refine brf (by assumption) ?_; (conv => arg 1; whnf)) | fail))
    exact finB rfl
  · have hr : s.right = true := by simpa using h
    have hb := Site.right_bd hr
    have hr' : Site.right ⟨s.fl, s.ca, s.st, s.sp, s.so, s.op, s.wa, s.cl, s.nu, s.ag, s.si, s.bu, s.pe⟩ = true := hr
    (conv => arg 1; whnf); (repeat' (first | (refine brt (by assumption) ?_; (conv => arg 1; whnf)) | (refine brf (by assumption) ?_; (conv => arg 1; whnf)) | fail))
    refine loopIn (fun k : Nat => k ≤ 3 ∧ ∀ j, j < k → 0 ≤ tri a b c j ∧ tri a b c j < s.fl) (fun k => frm 114 [(1, i64 a), (2, i64 b), (3, i64 c), (4, i64 hold), (5, .p 0 0), (22, .s 1 1 0 3), (23, i64 3), (24, i64 k)])
      (fun _ => [siteB s, .tab 1 3 fun j => [i64 (tri a b c j)]]) (fun k => 3 - k) 0 [0, 1] ⟨by decide, fun j hj => by omega⟩ (by decide) ?_ ?_ rfl fun k hi => ?_
    · repeat' (first | exact True.intro | exact Fit.dead _ | exact Fit.v _ | exact .i fun _ _ => rfl | exact Fit.ip | exact .p rfl | exact .q rfl | exact .s rfl | exact .y rfl | refine Fit.al ?_ | refine Fit.fl ?_ ?_ | refine And.intro ?_ ?_)
    · refine ⟨⟨_, rfl, .lit (by repeat' (first | exact True.intro | exact Fit.dead _ | exact Fit.v _ | exact .i fun _ _ => rfl | exact Fit.ip | exact .p rfl | exact .q rfl | exact .s rfl | exact .y rfl | refine Fit.al ?_ | refine Fit.fl ?_ ?_ | refine And.intro ?_ ?_))⟩, ⟨_, rfl, .tab fun j hj => ?_⟩, trivial⟩
      have : j = 0 ∨ j = 1 ∨ j = 2 := by omega
      rcases this with rfl | rfl | rfl <;> rfl
    · obtain ⟨i1, i2⟩ := hi
      (conv => arg 1; whnf)
      refine br (fun hk => ?_) (fun hk => ?_)
      · have hk := of_decide_eq_true hk
        have e1 : (decide (0 ≤ (k : Int)) && decide ((k : Int) < ((3 : Nat) : Int))) = true := by simp only [Bool.and_eq_true, decide_eq_true_eq]; omega
        have e0 : decide (0 + (k : Int).toNat < 3) = true := decide_eq_true (by omega)
        have e6 : 0 + (k : Int).toNat = k := by omega
        by_cases hin : 0 ≤ tri a b c k ∧ tri a b c k < s.fl
        · have e2 : decide (tri a b c (0 + (k : Int).toNat) < 0) = false := decide_eq_false (by rw [e6]; omega)
          have e3 : decide (s.fl ≤ tri a b c (0 + (k : Int).toNat)) = false := decide_eq_false (by rw [e6]; omega)
          (conv => arg 1; whnf); (repeat' (first | (refine brt (by assumption) ?_; (conv => arg 1; whnf)) | (refine brf (by assumption) ?_; (conv => arg 1; whnf)) | fail))
          refine again (k + 1) [0, 1] ?_ ?_ (by decide) ?_ ?_ ?_
          · refine ⟨by omega, fun j hj => ?_⟩
            rcases Nat.lt_succ_iff_lt_or_eq.1 hj with h | rfl
            · exact i2 j h
            · exact hin
          · show 3 - (k + 1) < 3 - k
            omega
          · repeat' (first | exact True.intro | exact Fit.dead _ | exact Fit.v _ | exact .i fun _ _ => rfl | exact Fit.ip | exact .p rfl | exact .q rfl | exact .s rfl | exact .y rfl | refine Fit.al ?_ | refine Fit.fl ?_ ?_ | refine And.intro ?_ ?_)
            exact Fit.v' (congrArg (Value.int .i64) (show ((k + 1 : Nat) : Int) = IntKind.i64.wrap ((k : Int) + 1) by rw [i64w _ (by omega) (by omega)]; omega))
          · exact ⟨⟨_, rfl, .lit (by repeat' (first | exact True.intro | exact Fit.dead _ | exact Fit.v _ | exact .i fun _ _ => rfl | exact Fit.ip | exact .p rfl | exact .q rfl | exact .s rfl | exact .y rfl | refine Fit.al ?_ | refine Fit.fl ?_ ?_ | refine And.intro ?_ ?_))⟩, ⟨_, rfl, .tab fun j hj => rfl⟩, trivial⟩
          · rfl
        · have g1 : decide (s.travel (tri a b c (0 + (k : Int).toNat)) 0 = 0) = true := decide_eq_true (travel_out (by rw [e6]; omega))
          have g2 : s.travel 0 (tri a b c (0 + (k : Int).toNat)) = 0 := by rw [travel_sym]; exact travel_out (by rw [e6]; omega)
          by_cases hn : tri a b c k < 0
          · have e2 : decide (tri a b c (0 + (k : Int).toNat) < 0) = true := decide_eq_true (by rw [e6]; omega)
            (conv => arg 1; whnf); (repeat' (first | (refine brt (by assumption) ?_; (conv => arg 1; whnf)) | (refine brf (by assumption) ?_; (conv => arg 1; whnf)) | fail))
            refine leaveRet ?_
            show tr _
            (conv => arg 1; whnf); (repeat' (first | (refine brt (by assumption) ?_; (conv => arg 1; whnf)) | (refine brf (by assumption) ?_; (conv => arg 1; whnf)) | fail))
            refine finB ?_
            exact (decide_eq_true g2).symm
          · have e2 : decide (tri a b c (0 + (k : Int).toNat) < 0) = false := decide_eq_false (by rw [e6]; omega)
            have e3 : decide (s.fl ≤ tri a b c (0 + (k : Int).toNat)) = true := decide_eq_true (by rw [e6]; omega)
            (conv => arg 1; whnf); (repeat' (first | (refine brt (by assumption) ?_; (conv => arg 1; whnf)) | (refine brf (by assumption) ?_; (conv => arg 1; whnf)) | fail))
            refine leaveRet ?_
            show tr _
            (conv => arg 1; whnf); (repeat' (first | (refine brt (by assumption) ?_; (conv => arg 1; whnf)) | (refine brf (by assumption) ?_; (conv => arg 1; whnf)) | fail))
            refine finB ?_
            exact (decide_eq_true g2).symm
      · have hk := of_decide_eq_false hk
        obtain rfl : k = 3 := by omega
        have a1 : 0 ≤ a ∧ a < s.fl := i2 0 (by decide)
        have a2 : 0 ≤ b ∧ b < s.fl := i2 1 (by decide)
        have a3 : 0 ≤ c ∧ c < s.fl := i2 2 (by decide)
        (conv => arg 1; whnf)
        refine leave ?_
        show tr _
        have b1 := travel_bd hr a b
        have t1 := travel_tri hr a1 a2 a3
        have b2 := travel_bd hr b c
        have v1 := Site.service_bd hr hold
        have f1 : (!decide (s.travel a b = s.travel b a)) = false := by rw [travel_sym a b]; simp
        have f2 : decide (s.travel a b < 0) = false := decide_eq_false (by omega)
        have f3 : (!(decide (s.travel a b = 0) == decide (a = b))) = false := by
          rw [travel_in a1 a2]
          by_cases h : a = b
          · rw [if_pos h, decide_eq_true h]; rfl
          · have h3 := Site.ride_bd hr (f := if a < b then b - a else a - b) (by split <;> omega) (by split <;> omega)
            have : 0 < s.ride (if a < b then b - a else a - b) := by
              have : s.sp * 1 ≤ s.sp * (if a < b then b - a else a - b) := Int.mul_le_mul_of_nonneg_left (by split <;> omega) (by omega)
              unfold Site.ride
              omega
            rw [if_neg h, decide_eq_false h, decide_eq_false (by omega)]; rfl
        have f4 : decide (IntKind.i64.wrap (s.travel a b + s.travel b c) < s.travel a c) = false := by
          rw [i64w _ (by omega) (by omega)]; exact decide_eq_false (by omega)
        have f5 : decide (s.travel a b < s.service hold) = true := decide_eq_true (by omega)
        have hbd : s.bound hold = s.ag + 130 * s.service hold + s.pe := rfl
        have f6 : decide (s.service hold < s.bound hold) = true := decide_eq_true (by omega)
        have f7 : decide (s.bound hold < 1099511627776) = true := decide_eq_true (by omega)
        have f8 : s.service hold ≤ s.service (mm true hold (IntKind.i64.wrap (hold + 1))) := by
          have hm : clampH hold ≤ clampH (mm true hold (IntKind.i64.wrap (hold + 1))) := clampH_mono (by unfold mm; simp only; split <;> omega)
          have := Int.mul_le_mul_of_nonneg_left (show s.door + clampH hold ≤ s.door + clampH (mm true hold (IntKind.i64.wrap (hold + 1))) by omega) (show 0 ≤ s.nu by omega)
          unfold Site.service
          omega
        (conv => arg 1; whnf); (repeat' (first | (refine brt (by assumption) ?_; (conv => arg 1; whnf)) | (refine brf (by assumption) ?_; (conv => arg 1; whnf)) | fail))
        refine finB ?_
        exact (decide_eq_true f8).symm
end Go.Proofs.Ytaneamfnjhiigaa.E
