/- The contracts of sites: how long things take, by the program and by the document. -/
import Derived.Test.YthdeehkmlaejfaaNumE
import Derived.Test.YthdeehkmlaejfaaSiteE
namespace Go.Proofs.Ythdeehkmlaejfaa.E
open Go NumMath
set_option linter.unusedSimpArgs false
set_option linter.unusedVariables false
set_option maxRecDepth 100000
set_option maxHeartbeats 4000000

theorem Site.right_bd {s : Site} (h : s.right = true) : 2 ≤ s.fl ∧ s.fl ≤ 64 ∧ 1 ≤ s.ca ∧ s.ca ≤ 8 ∧ 0 ≤ s.st ∧ s.st ≤ 1000 ∧ 1 ≤ s.sp ∧ s.sp ≤ 1000 ∧ 0 ≤ s.so ∧ s.so ≤ 1000 ∧ 1 ≤ s.op ∧ s.op ≤ 1000 ∧ 1 ≤ s.wa ∧ s.wa ≤ 1000 ∧ 1 ≤ s.cl ∧ s.cl ≤ 1000 ∧ 0 ≤ s.nu ∧ s.nu ≤ 10 ∧ 1 ≤ s.ag ∧ s.ag ≤ 1000000 ∧ 1 ≤ s.si ∧ s.si ≤ 1000000 ∧ 1 ≤ s.bu ∧ s.bu ≤ 1000000 ∧ 1 ≤ s.pe ∧ s.pe ≤ 1000 := by
  unfold Site.right inB at h
  simp only [Bool.and_eq_true, decide_eq_true_eq] at h
  omega
def XT0 : Cx := ((X2.add 59 (.reads readsL) (borCtr sumG))).add 50 .pure (pureCtr inG)
theorem XT0_ok : CxOk Try.prog XT0 := (X2_ok.bor sumB_ok).pure in_ok
theorem sum3 {a b c : Int} (ha : 0 ≤ a ∧ a ≤ 100000000000) (hb : 0 ≤ b ∧ b ≤ 100000000000) (hc : 0 ≤ c ∧ c ≤ 100000000000) : sumL [a, b, c] [a, b, c].length = a + b + c := by
  simp only [sumL, List.length_cons, List.length_nil, List.take, List.foldl]
  rw [lim_id (a := 0) (by omega) (by omega), lim_id (a := a) (by omega) (by omega), lim_id (a := b) (by omega) (by omega), lim_id (a := c) (by omega) (by omega), lim_id (a := 0 + a) (by omega) (by omega), lim_id (a := 0 + a) (by omega) (by omega), lim_id (a := 0 + a + b) (by omega) (by omega), lim_id (a := 0 + a + b) (by omega) (by omega), lim_id (by omega) (by omega)]
  omega
theorem sum4 {a b c d : Int} (ha : 0 ≤ a ∧ a ≤ 100000000000) (hb : 0 ≤ b ∧ b ≤ 100000000000) (hc : 0 ≤ c ∧ c ≤ 100000000000) (hd : 0 ≤ d ∧ d ≤ 100000000000) : sumL [a, b, c, d] [a, b, c, d].length = a + b + c + d := by
  simp only [sumL, List.length_cons, List.length_nil, List.take, List.foldl]
  rw [lim_id (a := 0) (by omega) (by omega), lim_id (a := a) (by omega) (by omega), lim_id (a := b) (by omega) (by omega), lim_id (a := c) (by omega) (by omega), lim_id (a := d) (by omega) (by omega), lim_id (a := 0 + a) (by omega) (by omega), lim_id (a := 0 + a) (by omega) (by omega), lim_id (a := 0 + a + b) (by omega) (by omega), lim_id (a := 0 + a + b) (by omega) (by omega), lim_id (a := 0 + a + b + c) (by omega) (by omega), lim_id (a := 0 + a + b + c) (by omega) (by omega), lim_id (by omega) (by omega)]
  omega
theorem mulr {a b : Int} {m n : Int} (ha : 0 ≤ a) (ha' : a ≤ m) (hb : 0 ≤ b) (hb' : b ≤ n) : 0 ≤ a * b ∧ a * b ≤ m * n :=
  ⟨Int.mul_nonneg ha hb, Int.le_trans (Int.mul_le_mul_of_nonneg_right ha' hb) (Int.mul_le_mul_of_nonneg_left hb' (by omega))⟩
def Site.ride (s : Site) (f : Int) : Int := s.st + s.sp * f + s.so
theorem Site.ride_bd {s : Site} (h : s.right = true) {f : Int} (hf : 0 ≤ f) (hf' : f ≤ 63) : 0 ≤ s.ride f ∧ s.ride f ≤ 65000 ∧ 0 ≤ s.sp * f ∧ s.sp * f ≤ 63000 := by
  have hb := Site.right_bd h
  have := mulr (a := s.sp) (b := f) (m := 1000) (n := 63) (by omega) (by omega) hf hf'
  unfold Site.ride
  omega
def rideG : List AV → Option (Bool × AV) := fn2 dSite dI fun s f => giv (s.right && (decide (0 ≤ f) && decide (f ≤ 63))) (i64 (s.ride f))
theorem ride_ok : CtrOk Try.prog 51 (pureCtr rideG) :=
  pureCtr_ok XT0_ok Try.func51 (by decide) rfl fun args u hh => by
    obtain ⟨s, f, rfl, hv⟩ := fn2_some hh
    obtain ⟨hc, rfl⟩ := giv_some hv
    clear hh hv
    refine ⟨rfl, rfl, ?_⟩
    simp only [Bool.and_eq_true, decide_eq_true_eq] at hc
    obtain ⟨hr, hf0, hf1⟩ := hc
    have hb := Site.right_bd hr
    obtain ⟨r1, r2, r3, r4⟩ := Site.ride_bd hr hf0 hf1
    unfold runF
    (conv => arg 1; whnf)
    refine finI ?_
    show s.ride f = sumL [s.st, lim (lim s.sp * lim f), s.so] [s.st, lim (lim s.sp * lim f), s.so].length
    rw [lim_id (a := s.sp) (by omega) (by omega), lim_id (a := f) (by omega) (by omega), lim_id (by omega) (by omega), sum3 (by omega) (by omega) (by omega)]
    rfl
def XT1 : Cx := XT0.add 51 .pure (pureCtr rideG)
theorem XT1_ok : CxOk Try.prog XT1 := XT0_ok.pure ride_ok
def Site.travel (s : Site) (f t : Int) : Int := if f = t ∨ f < 0 ∨ s.fl ≤ f ∨ t < 0 ∨ s.fl ≤ t then 0 else s.ride (if f < t then t - f else f - t)
def travelG : List AV → Option (Bool × AV) := fn3 dSite dI dI fun s f t => giv s.right (i64 (s.travel f t))
theorem travel_ok : CtrOk Try.prog 36 (pureCtr travelG) :=
  pureCtr_ok XT1_ok Try.func36 (by decide) rfl fun args u hh => by
    obtain ⟨s, f, t, rfl, hv⟩ := fn3_some hh
    obtain ⟨hr, rfl⟩ := giv_some hv
    clear hh hv
    refine ⟨rfl, rfl, ?_⟩
    have hb := Site.right_bd hr
    have w : IntKind.i64.wrap (s.fl - 1) = s.fl - 1 := i64w _ (by omega) (by omega)
    obtain ⟨s1, s2, s3, s4, s5, s6, s7, s8, s9, s10, s11, s12, s13⟩ := s
    simp only at w hb
    unfold runF
    (conv => arg 1; whnf)
    refine br (fun h1 => ?_) (fun h1 => ?_)
    · have h1' := of_decide_eq_true h1
      (conv => arg 1; whnf); (repeat' (first | (refine brt (by assumption) ?_; (conv => arg 1; whnf)) | (refine brf (by assumption) ?_; (conv => arg 1; whnf)) | fail))
      exact finI (by unfold Site.travel; rw [if_pos (by omega)])
    · have h1' := of_decide_eq_false h1
      by_cases h2 : 0 ≤ f ∧ f < s1
      · by_cases h3 : 0 ≤ t ∧ t < s1
        · have e2 : (!inB f 0 (IntKind.i64.wrap (s1 - 1))) = false := by rw [w]; unfold inB; rw [decide_eq_true (by omega), decide_eq_true (by omega)]; rfl
          have e3 : (!inB t 0 (IntKind.i64.wrap (s1 - 1))) = false := by rw [w]; unfold inB; rw [decide_eq_true (by omega), decide_eq_true (by omega)]; rfl
          have hm : mm true (IntKind.i64.wrap (f - t)) (IntKind.i64.wrap (t - f)) = if f < t then t - f else f - t := by
            rw [i64w (f - t) (by omega) (by omega), i64w (t - f) (by omega) (by omega)]
            unfold mm; simp only; split <;> split <;> omega
          have e4 : (Site.right ⟨s1, s2, s3, s4, s5, s6, s7, s8, s9, s10, s11, s12, s13⟩ && (decide (0 ≤ mm true (IntKind.i64.wrap (f - t)) (IntKind.i64.wrap (t - f))) && decide (mm true (IntKind.i64.wrap (f - t)) (IntKind.i64.wrap (t - f)) ≤ 63))) = true := by
            rw [hm, hr, decide_eq_true (by split <;> omega), decide_eq_true (by split <;> omega)]; rfl
          (conv => arg 1; whnf); (repeat' (first | (refine brt (by assumption) ?_; (conv => arg 1; whnf)) | (refine brf (by assumption) ?_; (conv => arg 1; whnf)) | fail))
          refine finI ?_
          show Site.travel _ f t = Site.ride _ (mm true (IntKind.i64.wrap (f - t)) (IntKind.i64.wrap (t - f)))
          rw [hm]; unfold Site.travel; rw [if_neg (by simp only; omega)]
        · have e2 : (!inB f 0 (IntKind.i64.wrap (s1 - 1))) = false := by rw [w]; unfold inB; rw [decide_eq_true (by omega), decide_eq_true (by omega)]; rfl
          have e3 : (!inB t 0 (IntKind.i64.wrap (s1 - 1))) = true := by
            rw [w]; unfold inB
            rw [Bool.not_eq_true', Bool.eq_false_iff]; intro hh; simp only [Bool.and_eq_true, decide_eq_true_eq] at hh; omega
          (conv => arg 1; whnf); (repeat' (first | (refine brt (by assumption) ?_; (conv => arg 1; whnf)) | (refine brf (by assumption) ?_; (conv => arg 1; whnf)) | fail))
          exact finI (by unfold Site.travel; rw [if_pos (by simp only; omega)])
      · have e2 : (!inB f 0 (IntKind.i64.wrap (s1 - 1))) = true := by
          rw [w]; unfold inB
          rw [Bool.not_eq_true', Bool.eq_false_iff]; intro hh; simp only [Bool.and_eq_true, decide_eq_true_eq] at hh; omega
        (conv => arg 1; whnf); (repeat' (first | (refine brt (by assumption) ?_; (conv => arg 1; whnf)) | (refine brf (by assumption) ?_; (conv => arg 1; whnf)) | fail))
        exact finI (by unfold Site.travel; rw [if_pos (by simp only; omega)])
def Site.door (s : Site) : Int := s.op + s.wa + s.cl + 4
def clampH (h : Int) : Int := mm true (mm false h 1000000) 0
theorem clampH_bd (h : Int) : 0 ≤ clampH h ∧ clampH h ≤ 1000000 := by unfold clampH mm; simp only; split <;> split <;> omega
theorem clampH_mono {a b : Int} (h : a ≤ b) : clampH a ≤ clampH b := by unfold clampH mm; simp only; repeat' split <;> omega
def Site.service (s : Site) (h : Int) : Int := s.ride (s.fl - 1) + s.door + s.nu * (s.door + clampH h)
def Site.bound (s : Site) (h : Int) : Int := s.ag + 130 * s.service h + s.pe
theorem Site.service_bd {s : Site} (hr : s.right = true) (h : Int) : 7 ≤ s.door ∧ s.door ≤ 3004 ∧ 0 ≤ s.nu * (s.door + clampH h) ∧ s.nu * (s.door + clampH h) ≤ 10030040 ∧ s.ride (s.fl - 1) + 7 ≤ s.service h ∧ s.service h ≤ 10098044 := by
  have hb := Site.right_bd hr
  have h1 := clampH_bd h
  have h2 := Site.ride_bd hr (f := s.fl - 1) (by omega) (by omega)
  have h3 : 7 ≤ s.door ∧ s.door ≤ 3004 := by unfold Site.door; omega
  have h4 := mulr (a := s.nu) (b := s.door + clampH h) (m := 10) (n := 1003004) (by omega) (by omega) (by omega) (by omega)
  unfold Site.service
  omega
def serviceG : List AV → Option (Bool × AV) := fn2 dSite dI fun s h => giv s.right (i64 (s.service h))
def boundG : List AV → Option (Bool × AV) := fn2 dSite dI fun s h => giv s.right (i64 (s.bound h))
abbrev siteB (s : Site) : Blk := .lit [i64 s.fl, i64 s.ca, i64 s.st, i64 s.sp, i64 s.so, i64 s.op, i64 s.wa, i64 s.cl, i64 s.nu, i64 s.ag, i64 s.si, i64 s.bu, i64 s.pe]
theorem rtravel_ok : CtrOk Try.prog 12 (pureCtr travelG) :=
  pureCtr_ok XR0_ok Try.func12 (by decide) rfl fun args u hh => by
    obtain ⟨s, f, t, rfl, hv⟩ := fn3_some hh
    obtain ⟨hr, rfl⟩ := giv_some hv
    clear hh hv
    refine ⟨rfl, rfl, ?_⟩
    have hb := Site.right_bd hr
    unfold runF
    (conv => arg 1; whnf)
    repeat' (first | (refine brt (by assumption) ?_; (conv => arg 1; whnf)) | (refine brf (by assumption) ?_; (conv => arg 1; whnf)) | (refine br (fun h => ?_) (fun h => ?_) <;> ((conv => arg 1; whnf))))
    all_goals try (refine finI ?_; simp only [decide_eq_true_eq, decide_eq_false_iff_not] at *; unfold Site.travel; rw [if_pos (by omega)]; done)
    rename_i h1 h2 h3 h4
    simp only [decide_eq_true_eq, decide_eq_false_iff_not] at h1 h2 h3 h4 h
    have key : ∀ x y : Int, f ≤ x → x < s.fl → t ≤ y → y ≤ x → 0 ≤ s.sp * (x - f) ∧ s.sp * (x - f) ≤ 63000 ∧ 0 ≤ s.sp * (x - y) ∧ s.sp * (x - y) ≤ 63000 := fun x y a1 a2 a3 a4 => by
      have := mulr (a := s.sp) (b := x - f) (m := 1000) (n := 63) (by omega) (by omega) (by omega) (by omega)
      have := mulr (a := s.sp) (b := x - y) (m := 1000) (n := 63) (by omega) (by omega) (by omega) (by omega)
      omega
    have stp : ∀ a : Int, s.sp * (a + 1) = s.sp * a + s.sp := fun a => by rw [Int.mul_add]; omega
    refine loopIn (fun x : Int => f ≤ x ∧ (x ≤ t ∨ x = f)) (fun x => frm 55 [(1, i64 x), (2, i64 t), (3, .p 0 0), (7, i64 (s.st + s.so + s.sp * (x - f)))]) (fun _ => [siteB s]) (fun x => (t - x).toNat) f [0] ⟨Int.le_refl _, .inr rfl⟩ (by decide) ?_ ?_ rfl fun x hi => ?_
    · repeat' (first | exact True.intro | exact Fit.dead _ | exact Fit.v _ | exact .i fun _ _ => rfl | exact Fit.ip | exact .p rfl | exact .q rfl | exact .s rfl | exact .y rfl | refine Fit.al ?_ | refine Fit.fl ?_ ?_ | refine And.intro ?_ ?_)
      exact Fit.v' (congrArg (Value.int .i64) (show s.st + s.so + s.sp * (f - f) = IntKind.i64.wrap (s.st + s.so) by rw [i64w _ (by omega) (by omega), show f - f = 0 by omega]; omega))
    · exact ⟨⟨_, rfl, .lit (by repeat' (first | exact True.intro | exact Fit.dead _ | exact Fit.v _ | exact .i fun _ _ => rfl | exact Fit.ip | exact .p rfl | exact .q rfl | exact .s rfl | exact .y rfl | refine Fit.al ?_ | refine Fit.fl ?_ ?_ | refine And.intro ?_ ?_))⟩, trivial⟩
    · obtain ⟨i1, i2⟩ := hi
      have k1 := key x x i1 (by omega)
      (conv => arg 1; whnf)
      refine br (fun hx => ?_) (fun hx => ?_)
      · have hx := of_decide_eq_true hx
        have k2 := mulr (a := s.sp) (b := x - f) (m := 1000) (n := 63) (by omega) (by omega) (by omega) (by omega)
        (conv => arg 1; whnf)
        refine again (x + 1) [0] ?_ ?_ (by decide) ?_ ?_ ?_
        · exact ⟨by omega, .inl (by omega)⟩
        · show (t - (x + 1)).toNat < (t - x).toNat
          omega
        · repeat' (first | exact True.intro | exact Fit.dead _ | exact Fit.v _ | exact .i fun _ _ => rfl | exact Fit.ip | exact .p rfl | exact .q rfl | exact .s rfl | exact .y rfl | refine Fit.al ?_ | refine Fit.fl ?_ ?_ | refine And.intro ?_ ?_)
          · exact Fit.v' (congrArg (Value.int .i64) (show x + 1 = IntKind.i64.wrap (x + 1) by rw [i64w _ (by omega) (by omega)]))
          · exact Fit.v' (congrArg (Value.int .i64) (show s.st + s.so + s.sp * (x + 1 - f) = IntKind.i64.wrap (s.st + s.so + s.sp * (x - f) + s.sp) by rw [i64w _ (by omega) (by omega), show x + 1 - f = (x - f) + 1 by omega, stp]; omega))
        · exact ⟨⟨_, rfl, .lit (by repeat' (first | exact True.intro | exact Fit.dead _ | exact Fit.v _ | exact .i fun _ _ => rfl | exact Fit.ip | exact .p rfl | exact .q rfl | exact .s rfl | exact .y rfl | refine Fit.al ?_ | refine Fit.fl ?_ ?_ | refine And.intro ?_ ?_))⟩, trivial⟩
        · rfl
      · have hx := of_decide_eq_false hx
        (conv => arg 1; whnf)
        refine leave ?_
        show tr _
        (conv => arg 1; whnf)
        refine loopIn (fun y : Int => t ≤ y ∧ y ≤ x) (fun y => frm 55 [(1, i64 y), (2, i64 t), (3, .p 0 0), (7, i64 (s.st + s.so + s.sp * (x - f) + s.sp * (x - y)))]) (fun _ => [siteB s]) (fun y => (y - t).toNat) x [0] ⟨by omega, Int.le_refl _⟩ (by decide) ?_ ?_ rfl fun y hi => ?_
        · repeat' (first | exact True.intro | exact Fit.dead _ | exact Fit.v _ | exact .i fun _ _ => rfl | exact Fit.ip | exact .p rfl | exact .q rfl | exact .s rfl | exact .y rfl | refine Fit.al ?_ | refine Fit.fl ?_ ?_ | refine And.intro ?_ ?_)
          exact Fit.v' (congrArg (Value.int .i64) (show s.st + s.so + s.sp * (x - f) + s.sp * (x - x) = s.st + s.so + s.sp * (x - f) by rw [show x - x = 0 by omega]; omega))
        · exact ⟨⟨_, rfl, .lit (by repeat' (first | exact True.intro | exact Fit.dead _ | exact Fit.v _ | exact .i fun _ _ => rfl | exact Fit.ip | exact .p rfl | exact .q rfl | exact .s rfl | exact .y rfl | refine Fit.al ?_ | refine Fit.fl ?_ ?_ | refine And.intro ?_ ?_))⟩, trivial⟩
        · obtain ⟨j1, j2⟩ := hi
          have k2 := key x y i1 (by omega) j1 j2
          (conv => arg 1; whnf)
          refine br (fun hy => ?_) (fun hy => ?_)
          · have hy := of_decide_eq_true hy
            (conv => arg 1; whnf)
            refine again (y - 1) [0] ?_ ?_ (by decide) ?_ ?_ ?_
            · exact ⟨by omega, by omega⟩
            · show (y - 1 - t).toNat < (y - t).toNat
              omega
            · repeat' (first | exact True.intro | exact Fit.dead _ | exact Fit.v _ | exact .i fun _ _ => rfl | exact Fit.ip | exact .p rfl | exact .q rfl | exact .s rfl | exact .y rfl | refine Fit.al ?_ | refine Fit.fl ?_ ?_ | refine And.intro ?_ ?_)
              · exact Fit.v' (congrArg (Value.int .i64) (show y - 1 = IntKind.i64.wrap (y - 1) by rw [i64w _ (by omega) (by omega)]))
              · exact Fit.v' (congrArg (Value.int .i64) (show s.st + s.so + s.sp * (x - f) + s.sp * (x - (y - 1)) = IntKind.i64.wrap (s.st + s.so + s.sp * (x - f) + s.sp * (x - y) + s.sp) by rw [i64w _ (by omega) (by omega), show x - (y - 1) = (x - y) + 1 by omega, stp]; omega))
            · exact ⟨⟨_, rfl, .lit (by repeat' (first | exact True.intro | exact Fit.dead _ | exact Fit.v _ | exact .i fun _ _ => rfl | exact Fit.ip | exact .p rfl | exact .q rfl | exact .s rfl | exact .y rfl | refine Fit.al ?_ | refine Fit.fl ?_ ?_ | refine And.intro ?_ ?_))⟩, trivial⟩
            · rfl
          · have hy := of_decide_eq_false hy
            obtain rfl : y = t := by omega
            (conv => arg 1; whnf)
            refine leave ?_
            show tr _
            (conv => arg 1; whnf)
            refine finI ?_
            show s.travel f y = s.st + s.so + s.sp * (x - f) + s.sp * (x - y)
            unfold Site.travel
            rw [if_neg (by omega)]
            unfold Site.ride
            have hd : s.sp * (if f < y then y - f else f - y) = s.sp * (x - f) + s.sp * (x - y) := by
              rw [← Int.mul_add]
              congr 1
              split <;> omega
            rw [hd]
            omega
end Go.Proofs.Ythdeehkmlaejfaa.E
