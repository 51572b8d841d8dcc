/- The laws of doors, by the engine. -/
import Derived.Test.YtohgniddfpjjfaaDoorE
import Derived.Test.YtohgniddfpjjfaaERow
import Derived.Test.YtohgniddfpjjfaaBitsE
namespace Go.Proofs.Ytohgniddfpjjfaa.E
open Go
set_option linter.unusedSimpArgs false
set_option maxRecDepth 100000
set_option maxHeartbeats 4000000

def XDL0 : Cx := XD2.add 26 .pure (pureCtr stepG)
theorem XDL0_ok : CxOk Try.prog XDL0 := XD2_ok.pure step_ok
def truG : List AV → Option (Bool × AV) := fn0 (giv true (boo true))
theorem speaks04_ok : CtrOk Try.prog 24 (pureCtr truG) :=
  pureCtr_ok XDL0_ok Try.func24 (by decide) rfl fun args u hh => by
    obtain ⟨rfl, hv⟩ := fn0_some hh
    obtain ⟨_, rfl⟩ := giv_some hv
    clear hh hv
    refine ⟨rfl, rfl, ?_⟩
    unfold runF
    (conv => arg 1; whnf)
    exact finB rfl
def XDL : Cx := (((((XDL0.add 24 .pure (pureCtr truG)).add 27 .pure (pureCtr drightG)).add 25 .pure (pureCtr rightG)).add 28 .pure (pureCtr drightG)).add 29 .pure (pureCtr rstepG))
theorem XDL_ok : CxOk Try.prog XDL := (((((XDL0_ok.pure speaks04_ok).pure dright_ok).pure rright_ok).pure rdright_ok).pure rstep_ok)

theorem site_arg {u : AV} (h : isArg tt 32 u) : ∃ s : Site, u = s.av := by
  obtain ⟨_, ⟨_, _, rfl, ⟨a1, rfl, w1⟩, _, _, rfl, ⟨a2, rfl, w2⟩, _, _, rfl, ⟨a3, rfl, w3⟩, _, _, rfl, ⟨a4, rfl, w4⟩, _, _, rfl, ⟨a5, rfl, w5⟩, _, _, rfl, ⟨a6, rfl, w6⟩, _, _, rfl, ⟨a7, rfl, w7⟩, _, _, rfl, ⟨a8, rfl, w8⟩, _, _, rfl, ⟨a9, rfl, w9⟩, _, _, rfl, ⟨a10, rfl, w10⟩, _, _, rfl, ⟨a11, rfl, w11⟩, _, _, rfl, ⟨a12, rfl, w12⟩, _, _, rfl, ⟨a13, rfl, w13⟩, rfl⟩, rfl⟩ := h
  exact ⟨⟨a1, a2, a3, a4, a5, a6, a7, a8, a9, a10, a11, a12, a13⟩, rfl⟩
theorem int_arg {u : AV} (h : isArg tt 3 u) : ∃ n : Int, u = i64 n ∧ -9223372036854775808 ≤ n ∧ n ≤ 9223372036854775807 := by
  obtain ⟨n, e, w⟩ := h
  exact ⟨n, (List.cons.inj e).1, wf_i64 w⟩
theorem Site.right_bd {s : Site} (h : s.right = true) : 2 ≤ s.fl ∧ s.fl ≤ 64 ∧ 1 ≤ s.ca ∧ s.ca ≤ 8 ∧ 0 ≤ s.st ∧ s.st ≤ 1000 ∧ 1 ≤ s.sp ∧ s.sp ≤ 1000 ∧ 0 ≤ s.so ∧ s.so ≤ 1000 ∧ 1 ≤ s.op ∧ s.op ≤ 1000 ∧ 1 ≤ s.wa ∧ s.wa ≤ 1000 ∧ 1 ≤ s.cl ∧ s.cl ≤ 1000 ∧ 0 ≤ s.nu ∧ s.nu ≤ 10 ∧ 1 ≤ s.ag ∧ s.ag ≤ 1000000 ∧ 1 ≤ s.si ∧ s.si ≤ 1000000 ∧ 1 ≤ s.bu ∧ s.bu ≤ 1000000 ∧ 1 ≤ s.pe ∧ s.pe ≤ 1000 := by
  unfold Site.right inB at h
  simp only [Bool.and_eq_true, decide_eq_true_eq] at h
  omega

/-! ### DoorHeld -/
theorem DoorHeld (us : List AV) (h : areArgs tt [32, 3] us) : runF XDL Try.f8 us [] (boo true) [] := by
  obtain ⟨_, _, rfl, hs, _, _, rfl, hn, rfl⟩ := h
  obtain ⟨s, rfl⟩ := site_arg hs
  obtain ⟨n, rfl, n1, n2⟩ := int_arg hn
  clear hs hn
  unfold runF
  (conv => arg 1; whnf)
  refine br (fun h => ?_) (fun h => ?_)
  · (conv => arg 1; whnf); (repeat' (first | (refine brt (by assumption) ?_; (conv => arg 1; whnf)) | (refine brf (by assumption) ?_; (conv => arg 1; whnf)) | fail))
    exact finB rfl
  · (conv => arg 1; whnf); (repeat' (first | (refine brt (by assumption) ?_; (conv => arg 1; whnf)) | (refine brf (by assumption) ?_; (conv => arg 1; whnf)) | fail))
    have hr : s.right = true := by simpa using h
    have hb := Site.right_bd hr
    refine br (fun h => ?_) (fun h => ?_)
    · (conv => arg 1; whnf); (repeat' (first | (refine brt (by assumption) ?_; (conv => arg 1; whnf)) | (refine brf (by assumption) ?_; (conv => arg 1; whnf)) | fail))
      exact finB rfl
    · have hnu := of_decide_eq_false h
      (conv => arg 1; whnf); (repeat' (first | (refine brt (by assumption) ?_; (conv => arg 1; whnf)) | (refine brf (by assumption) ?_; (conv => arg 1; whnf)) | fail))
      clear h
      have hm : (bits .and .i64 n 63) = n % 64 := and63 n
      refine loopIn (fun k : Nat => k ≤ (n % 64).toNat + 1) (fun k => frm 57 [(2, .p 0 0), (5, .p 1 0), (6, i64 (n % 64 + 1)), (7, i64 k)])
        (fun k => [.lit [i64 s.fl, i64 s.ca, i64 s.st, i64 s.sp, i64 s.so, i64 s.op, i64 s.wa, i64 s.cl, i64 s.nu, i64 s.ag, i64 s.si, i64 s.bu, i64 s.pe], .lit [i64 2, i64 s.wa, i64 (if k = 0 then 0 else 1), boo (decide (k ≠ 0))]])
        (fun k => (n % 64).toNat + 1 - k) 0 [0, 1] (Nat.zero_le _) (by decide) ?_ ?_ rfl fun k hi => ?_
      · repeat' (first | exact True.intro | exact Fit.dead _ | exact Fit.v _ | exact .i fun _ _ => rfl | exact Fit.ip | exact .p rfl | exact .q rfl | exact .s rfl | exact .y rfl | refine Fit.al ?_ | refine Fit.fl ?_ ?_ | refine And.intro ?_ ?_)
        exact Fit.v' (congrArg (Value.int .i64) (by show n % 64 + 1 = IntKind.i64.wrap (bits .and .i64 n 63 + 1); rw [hm, wi _ (by omega) (by omega)]))
      · exact ⟨⟨_, rfl, .lit (by repeat' (first | exact True.intro | exact Fit.dead _ | exact Fit.v _ | exact .i fun _ _ => rfl | exact Fit.ip | exact .p rfl | exact .q rfl | exact .s rfl | exact .y rfl | refine Fit.al ?_ | refine Fit.fl ?_ ?_ | refine And.intro ?_ ?_))⟩, ⟨_, rfl, .lit (by repeat' (first | exact True.intro | exact Fit.dead _ | exact Fit.v _ | exact .i fun _ _ => rfl | exact Fit.ip | exact .p rfl | exact .q rfl | exact .s rfl | exact .y rfl | refine Fit.al ?_ | refine Fit.fl ?_ ?_ | refine And.intro ?_ ?_))⟩, trivial⟩
      · have hst : Door.step s ⟨2, s.wa, if k = 0 then 0 else 1, decide (k ≠ 0)⟩ false true = ⟨2, s.wa, 1, true⟩ := by
          by_cases h0 : k = 0
          · subst h0; simp [Door.step, Door.hold, Door.enter, Site.tk, show (0 : Int) < s.nu by omega]
          · simp [Door.step, Door.hold, Door.enter, Site.tk, h0]
        (conv => arg 1; whnf)
        refine br (fun h => ?_) (fun h => ?_)
        · have hk := of_decide_eq_true h
          (conv => arg 1; whnf); (repeat' (first | (refine brt (by assumption) ?_; (conv => arg 1; whnf)) | (refine brf (by assumption) ?_; (conv => arg 1; whnf)) | fail))
          refine brt (by simp only [smallN, Bool.and_eq_true, decide_eq_true_eq]; split <;> omega) ?_
          (conv => arg 1; whnf)
          refine brf (by rw [hst]; simp) ?_
          (conv => arg 1; whnf)
          refine again (k + 1) [0, 1] (by omega) (by omega) (by decide) ?_ ?_ rfl
          · repeat' (first | exact True.intro | exact Fit.dead _ | exact Fit.v _ | exact .i fun _ _ => rfl | exact Fit.ip | exact .p rfl | exact .q rfl | exact .s rfl | exact .y rfl | refine Fit.al ?_ | refine Fit.fl ?_ ?_ | refine And.intro ?_ ?_)
            exact Fit.v' (congrArg (Value.int .i64) (by rw [wi _ (by omega) (by omega)]; omega))
          · refine ⟨⟨_, rfl, .lit (by repeat' (first | exact True.intro | exact Fit.dead _ | exact Fit.v _ | exact .i fun _ _ => rfl | exact Fit.ip | exact .p rfl | exact .q rfl | exact .s rfl | exact .y rfl | refine Fit.al ?_ | refine Fit.fl ?_ ?_ | refine And.intro ?_ ?_))⟩, ⟨_, rfl, .lit ⟨.v' ?_, .v' ?_, .v' ?_, .v' ?_, trivial⟩⟩, trivial⟩
            all_goals (first | (refine congrArg (Value.int .i64) ?_) | (refine congrArg Value.bool ?_))
            all_goals (rw [hst])
            all_goals simp
        · have hk := of_decide_eq_false h
          obtain rfl : k = (n % 64).toNat + 1 := by omega
          clear h hi
          clear hst
          have hst : Door.step s ⟨2, s.wa, 1, true⟩ false false = if s.wa = 1 then ⟨3, s.cl, 1, false⟩ else ⟨2, s.wa - 1, 1, false⟩ := by
            by_cases h1 : s.wa = 1
            · simp [Door.step, Door.hold, Door.enter, Site.tk, h1]
            · simp [Door.step, Door.hold, Door.enter, Site.tk, h1, show s.wa - 1 > 0 by omega, show 1 < s.wa by omega]
          (conv => arg 1; whnf)
          refine leaveAs (frm 57 [(2, .p 0 0), (5, .p 1 0)]) [.lit [i64 s.fl, i64 s.ca, i64 s.st, i64 s.sp, i64 s.so, i64 s.op, i64 s.wa, i64 s.cl, i64 s.nu, i64 s.ag, i64 s.si, i64 s.bu, i64 s.pe], .lit [i64 2, i64 s.wa, i64 1, boo true]] [0, 1] (by decide) ?_ ?_ rfl ?_
          · repeat' (first | exact True.intro | exact Fit.dead _ | exact Fit.v _ | exact .i fun _ _ => rfl | exact Fit.ip | exact .p rfl | exact .q rfl | exact .s rfl | exact .y rfl | refine Fit.al ?_ | refine Fit.fl ?_ ?_ | refine And.intro ?_ ?_)
          · refine ⟨⟨_, rfl, .lit (by repeat' (first | exact True.intro | exact Fit.dead _ | exact Fit.v _ | exact .i fun _ _ => rfl | exact Fit.ip | exact .p rfl | exact .q rfl | exact .s rfl | exact .y rfl | refine Fit.al ?_ | refine Fit.fl ?_ ?_ | refine And.intro ?_ ?_))⟩, ⟨_, rfl, .lit ⟨.v _, .v _, .v' ?_, .v' ?_, trivial⟩⟩, trivial⟩
            · rw [if_neg (by omega)]
            · rw [decide_eq_true (by omega)]
          · show tr _
            (conv => arg 1; whnf)
            refine brt (by simp only [smallN, Bool.and_eq_true, decide_eq_true_eq]; omega) ?_
            (conv => arg 1; whnf)
            have hA : (!(Door.step s ⟨2, s.wa, 1, true⟩ false false).he) = true := by rw [hst]; split <;> rfl
            have hB : decide ((Door.step s ⟨2, s.wa, 1, true⟩ false false).ru = 1) = true := by rw [hst]; split <;> rfl
            repeat' (first | (refine brt (by assumption) ?_; (conv => arg 1; whnf)) | fail)
            refine finB ?_
            rw [hst]
            by_cases h1 : s.wa = 1 <;> simp [h1]
end Go.Proofs.Ytohgniddfpjjfaa.E
