/- The contracts of sites: how long things take, by the program and by the document. -/
import Derived.Test.YtejpheapjklpgaaNumE
import Derived.Test.YtejpheapjklpgaaSiteE
namespace Go.Proofs.Ytejpheapjklpgaa.E
open Go NumMath
set_option linter.unusedSimpArgs false
set_option linter.unusedVariables false
set_option maxRecDepth 100000
set_option maxHeartbeats 4000000

theorem Site.right_bd {s : Site} (h : s.right = true) : 2 ≤ s.fl ∧ s.fl ≤ 64 ∧ 1 ≤ s.ca ∧ s.ca ≤ 8 ∧ 0 ≤ s.st ∧ s.st ≤ 1000 ∧ 1 ≤ s.sp ∧ s.sp ≤ 1000 ∧ 0 ≤ s.so ∧ s.so ≤ 1000 ∧ 1 ≤ s.op ∧ s.op ≤ 1000 ∧ 1 ≤ s.wa ∧ s.wa ≤ 1000 ∧ 1 ≤ s.cl ∧ s.cl ≤ 1000 ∧ 0 ≤ s.nu ∧ s.nu ≤ 10 ∧ 1 ≤ s.ag ∧ s.ag ≤ 1000000 ∧ 1 ≤ s.si ∧ s.si ≤ 1000000 ∧ 1 ≤ s.bu ∧ s.bu ≤ 1000000 ∧ 1 ≤ s.pe ∧ s.pe ≤ 1000 := by
  unfold Site.right inB at h
  simp only [Bool.and_eq_true, decide_eq_true_eq] at h
  omega
def XT0 : Cx := ((X2.add 28 (.reads readsL) (borCtr sumG))).add 23 .pure (pureCtr inG)
theorem XT0_ok : CxOk Try.prog XT0 := (X2_ok.bor sumB_ok).pure in_ok
theorem sum3 {a b c : Int} (ha : 0 ≤ a ∧ a ≤ 100000000000) (hb : 0 ≤ b ∧ b ≤ 100000000000) (hc : 0 ≤ c ∧ c ≤ 100000000000) : sumL [a, b, c] [a, b, c].length = a + b + c := by
  simp only [sumL, List.length_cons, List.length_nil, List.take, List.foldl]
  rw [lim_id (a := 0) (by omega) (by omega), lim_id (a := a) (by omega) (by omega), lim_id (a := b) (by omega) (by omega), lim_id (a := c) (by omega) (by omega), lim_id (a := 0 + a) (by omega) (by omega), lim_id (a := 0 + a) (by omega) (by omega), lim_id (a := 0 + a + b) (by omega) (by omega), lim_id (a := 0 + a + b) (by omega) (by omega), lim_id (by omega) (by omega)]
  omega
theorem sum4 {a b c d : Int} (ha : 0 ≤ a ∧ a ≤ 100000000000) (hb : 0 ≤ b ∧ b ≤ 100000000000) (hc : 0 ≤ c ∧ c ≤ 100000000000) (hd : 0 ≤ d ∧ d ≤ 100000000000) : sumL [a, b, c, d] [a, b, c, d].length = a + b + c + d := by
  simp only [sumL, List.length_cons, List.length_nil, List.take, List.foldl]
  rw [lim_id (a := 0) (by omega) (by omega), lim_id (a := a) (by omega) (by omega), lim_id (a := b) (by omega) (by omega), lim_id (a := c) (by omega) (by omega), lim_id (a := d) (by omega) (by omega), lim_id (a := 0 + a) (by omega) (by omega), lim_id (a := 0 + a) (by omega) (by omega), lim_id (a := 0 + a + b) (by omega) (by omega), lim_id (a := 0 + a + b) (by omega) (by omega), lim_id (a := 0 + a + b + c) (by omega) (by omega), lim_id (a := 0 + a + b + c) (by omega) (by omega), lim_id (by omega) (by omega)]
  omega
theorem mulr {a b : Int} {m n : Int} (ha : 0 ≤ a) (ha' : a ≤ m) (hb : 0 ≤ b) (hb' : b ≤ n) : 0 ≤ a * b ∧ a * b ≤ m * n :=
  ⟨Int.mul_nonneg ha hb, Int.le_trans (Int.mul_le_mul_of_nonneg_right ha' hb) (Int.mul_le_mul_of_nonneg_left hb' (by omega))⟩
def Site.ride (s : Site) (f : Int) : Int := s.st + s.sp * f + s.so
theorem Site.ride_bd {s : Site} (h : s.right = true) {f : Int} (hf : 0 ≤ f) (hf' : f ≤ 63) : 0 ≤ s.ride f ∧ s.ride f ≤ 65000 ∧ 0 ≤ s.sp * f ∧ s.sp * f ≤ 63000 := by
  have hb := Site.right_bd h
  have := mulr (a := s.sp) (b := f) (m := 1000) (n := 63) (by omega) (by omega) hf hf'
  unfold Site.ride
  omega
def rideG : List AV → Option (Bool × AV) := fn2 dSite dI fun s f => giv (s.right && (decide (0 ≤ f) && decide (f ≤ 63))) (i64 (s.ride f))
theorem ride_ok : CtrOk Try.prog 24 (pureCtr rideG) :=
  pureCtr_ok XT0_ok Try.func24 (by decide) rfl fun args u hh => by
    obtain ⟨s, f, rfl, hv⟩ := fn2_some hh
    obtain ⟨hc, rfl⟩ := giv_some hv
    clear hh hv
    refine ⟨rfl, rfl, ?_⟩
    simp only [Bool.and_eq_true, decide_eq_true_eq] at hc
    obtain ⟨hr, hf0, hf1⟩ := hc
    have hb := Site.right_bd hr
    obtain ⟨r1, r2, r3, r4⟩ := Site.ride_bd hr hf0 hf1
    unfold runF
    (conv => arg 1; whnf)
    refine finI ?_
    show s.ride f = sumL [s.st, lim (lim s.sp * lim f), s.so] [s.st, lim (lim s.sp * lim f), s.so].length
    rw [lim_id (a := s.sp) (by omega) (by omega), lim_id (a := f) (by omega) (by omega), lim_id (by omega) (by omega), sum3 (by omega) (by omega) (by omega)]
    rfl
def XT1 : Cx := XT0.add 24 .pure (pureCtr rideG)
theorem XT1_ok : CxOk Try.prog XT1 := XT0_ok.pure ride_ok
def Site.travel (s : Site) (f t : Int) : Int := if f = t ∨ f < 0 ∨ s.fl ≤ f ∨ t < 0 ∨ s.fl ≤ t then 0 else s.ride (if f < t then t - f else f - t)
def travelG : List AV → Option (Bool × AV) := fn3 dSite dI dI fun s f t => giv s.right (i64 (s.travel f t))
theorem travel_ok : CtrOk Try.prog 11 (pureCtr travelG) :=
  pureCtr_ok XT1_ok Try.func11 (by decide) rfl fun args u hh => by
    obtain ⟨s, f, t, rfl, hv⟩ := fn3_some hh
    obtain ⟨hr, rfl⟩ := giv_some hv
    clear hh hv
    refine ⟨rfl, rfl, ?_⟩
    have hb := Site.right_bd hr
    have w : IntKind.i64.wrap (s.fl - 1) = s.fl - 1 := i64w _ (by omega) (by omega)
    obtain ⟨s1, s2, s3, s4, s5, s6, s7, s8, s9, s10, s11, s12, s13⟩ := s
    simp only at w hb
    unfold runF
    (conv => arg 1; whnf)
    refine br (fun h1 => ?_) (fun h1 => ?_)
    · have h1' := of_decide_eq_true h1
      (conv => arg 1; whnf); (repeat' (first | (refine brt (by assumption) ?_; (conv => arg 1; whnf)) | (refine brf (by assumption) ?_; (conv => arg 1; whnf)) | fail))
      exact finI (by unfold Site.travel; rw [if_pos (by omega)])
    · have h1' := of_decide_eq_false h1
      by_cases h2 : 0 ≤ f ∧ f < s1
      · by_cases h3 : 0 ≤ t ∧ t < s1
        · have e2 : (!inB f 0 (IntKind.i64.wrap (s1 - 1))) = false := by rw [w]; unfold inB; rw [decide_eq_true (by omega), decide_eq_true (by omega)]; rfl
          have e3 : (!inB t 0 (IntKind.i64.wrap (s1 - 1))) = false := by rw [w]; unfold inB; rw [decide_eq_true (by omega), decide_eq_true (by omega)]; rfl
          have hm : mm true (IntKind.i64.wrap (f - t)) (IntKind.i64.wrap (t - f)) = if f < t then t - f else f - t := by
            rw [i64w (f - t) (by omega) (by omega), i64w (t - f) (by omega) (by omega)]
            unfold mm; simp only; split <;> split <;> omega
          have e4 : (Site.right ⟨s1, s2, s3, s4, s5, s6, s7, s8, s9, s10, s11, s12, s13⟩ && (decide (0 ≤ mm true (IntKind.i64.wrap (f - t)) (IntKind.i64.wrap (t - f))) && decide (mm true (IntKind.i64.wrap (f - t)) (IntKind.i64.wrap (t - f)) ≤ 63))) = true := by
            rw [hm, hr, decide_eq_true (by split <;> omega), decide_eq_true (by split <;> omega)]; rfl
          (conv => arg 1; whnf); (repeat' (first | (refine brt (by assumption) ?_; (conv => arg 1; whnf)) | (refine brf (by assumption) ?_; (conv => arg 1; whnf)) | fail))
          refine finI ?_
          show Site.travel _ f t = Site.ride _ (mm true (IntKind.i64.wrap (f - t)) (IntKind.i64.wrap (t - f)))
          rw [hm]; unfold Site.travel; rw [if_neg (by simp only; omega)]
        · have e2 : (!inB f 0 (IntKind.i64.wrap (s1 - 1))) = false := by rw [w]; unfold inB; rw [decide_eq_true (by omega), decide_eq_true (by omega)]; rfl
          have e3 : (!inB t 0 (IntKind.i64.wrap (s1 - 1))) = true := by
            rw [w]; unfold inB
            rw [Bool.not_eq_true', Bool.eq_false_iff]; intro hh; simp only [Bool.and_eq_true, decide_eq_true_eq] at hh; omega
          (conv => arg 1; whnf); (repeat' (first | (refine brt (by assumption) ?_; (conv => arg 1; whnf)) | (refine brf (by assumption) ?_; (conv => arg 1; whnf)) | fail))
          exact finI (by unfold Site.travel; rw [if_pos (by simp only; omega)])
      · have e2 : (!inB f 0 (IntKind.i64.wrap (s1 - 1))) = true := by
          rw [w]; unfold inB
          rw [Bool.not_eq_true', Bool.eq_false_iff]; intro hh; simp only [Bool.and_eq_true, decide_eq_true_eq] at hh; omega
        (conv => arg 1; whnf); (repeat' (first | (refine brt (by assumption) ?_; (conv => arg 1; whnf)) | (refine brf (by assumption) ?_; (conv => arg 1; whnf)) | fail))
        exact finI (by unfold Site.travel; rw [if_pos (by simp only; omega)])
def Site.door (s : Site) : Int := s.op + s.wa + s.cl + 4
def clampH (h : Int) : Int := mm true (mm false h 1000000) 0
theorem clampH_bd (h : Int) : 0 ≤ clampH h ∧ clampH h ≤ 1000000 := by unfold clampH mm; simp only; split <;> split <;> omega
theorem clampH_mono {a b : Int} (h : a ≤ b) : clampH a ≤ clampH b := by unfold clampH mm; simp only; repeat' split <;> omega
def Site.service (s : Site) (h : Int) : Int := s.ride (s.fl - 1) + s.door + s.nu * (s.door + clampH h)
def Site.bound (s : Site) (h : Int) : Int := s.ag + 130 * s.service h + s.pe
theorem Site.service_bd {s : Site} (hr : s.right = true) (h : Int) : 7 ≤ s.door ∧ s.door ≤ 3004 ∧ 0 ≤ s.nu * (s.door + clampH h) ∧ s.nu * (s.door + clampH h) ≤ 10030040 ∧ s.ride (s.fl - 1) + 7 ≤ s.service h ∧ s.service h ≤ 10098044 := by
  have hb := Site.right_bd hr
  have h1 := clampH_bd h
  have h2 := Site.ride_bd hr (f := s.fl - 1) (by omega) (by omega)
  have h3 : 7 ≤ s.door ∧ s.door ≤ 3004 := by unfold Site.door; omega
  have h4 := mulr (a := s.nu) (b := s.door + clampH h) (m := 10) (n := 1003004) (by omega) (by omega) (by omega) (by omega)
  unfold Site.service
  omega
def serviceG : List AV → Option (Bool × AV) := fn2 dSite dI fun s h => giv s.right (i64 (s.service h))
def boundG : List AV → Option (Bool × AV) := fn2 dSite dI fun s h => giv s.right (i64 (s.bound h))
abbrev siteB (s : Site) : Blk := .lit [i64 s.fl, i64 s.ca, i64 s.st, i64 s.sp, i64 s.so, i64 s.op, i64 s.wa, i64 s.cl, i64 s.nu, i64 s.ag, i64 s.si, i64 s.bu, i64 s.pe]
end Go.Proofs.Ytejpheapjklpgaa.E
