/- The law of sites, by the engine. -/
import Derived.Test.YtaneamfnjhiigaaSiteTableE
import Derived.Test.YtaneamfnjhiigaaERow
namespace Go.Proofs.Ytaneamfnjhiigaa.E
open Go NumMath
set_option linter.unusedSimpArgs false
set_option linter.unusedVariables false
set_option maxRecDepth 100000
set_option maxHeartbeats 4000000

theorem site_arg {u : AV} (h : isArg tt 23 u) : ∃ s : Site, u = s.av := by
  obtain ⟨_, ⟨_, _, rfl, ⟨a1, rfl, w1⟩, _, _, rfl, ⟨a2, rfl, w2⟩, _, _, rfl, ⟨a3, rfl, w3⟩, _, _, rfl, ⟨a4, rfl, w4⟩, _, _, rfl, ⟨a5, rfl, w5⟩, _, _, rfl, ⟨a6, rfl, w6⟩, _, _, rfl, ⟨a7, rfl, w7⟩, _, _, rfl, ⟨a8, rfl, w8⟩, _, _, rfl, ⟨a9, rfl, w9⟩, _, _, rfl, ⟨a10, rfl, w10⟩, _, _, rfl, ⟨a11, rfl, w11⟩, _, _, rfl, ⟨a12, rfl, w12⟩, _, _, rfl, ⟨a13, rfl, w13⟩, rfl⟩, rfl⟩ := h
  exact ⟨⟨a1, a2, a3, a4, a5, a6, a7, a8, a9, a10, a11, a12, a13⟩, rfl⟩
theorem int_arg {u : AV} (h : isArg tt 3 u) : ∃ n : Int, u = i64 n ∧ -9223372036854775808 ≤ n ∧ n ≤ 9223372036854775807 := by
  obtain ⟨n, e, w⟩ := h
  exact ⟨n, (List.cons.inj e).1, wf_i64 w⟩
theorem SiteTold (us : List AV) (h : areArgs tt [23, 3, 3, 3] us) : runF XTT Try.f4 us [] (boo true) [] := by
  obtain ⟨_, _, rfl, hs, _, _, rfl, ha, _, _, rfl, hb, _, _, rfl, hh, rfl⟩ := h
  obtain ⟨s, rfl⟩ := site_arg hs
  obtain ⟨a, rfl, ha1, ha2⟩ := int_arg ha
  obtain ⟨b, rfl, hb1, hb2⟩ := int_arg hb
  obtain ⟨hold, rfl, hh1, hh2⟩ := int_arg hh
  clear hs ha hb hh
  have e0 : (!(s.right == s.right)) = false := by simp
  unfold runF
  (conv => arg 1; whnf); (repeat' (first | (refine brt (by assumption) ?_; (conv => arg 1; whnf)) | (refine brf (by assumption) ?_; (conv => arg 1; whnf)) | fail))
  refine br (fun h => ?_) (fun h => ?_)
  · (conv => arg 1; whnf); (repeat' (first | (refine brt (by assumption) ?_; (conv => arg 1; whnf)) | (refine brf (by assumption) ?_; (conv => arg 1; whnf)) | fail))
    exact finB rfl
  · have hr : s.right = true := by simpa using h
    have hb := Site.right_bd hr
    have hr' : Site.right ⟨s.fl, s.ca, s.st, s.sp, s.so, s.op, s.wa, s.cl, s.nu, s.ag, s.si, s.bu, s.pe⟩ = true := hr
    have hn : ((s.fl.toNat : Nat) : Int) = s.fl := by omega
    have e1 : (!decide (((s.fl.toNat : Nat) : Int) = s.fl)) = false := by rw [decide_eq_true hn]; rfl
    (conv => arg 1; whnf); (repeat' (first | (refine brt (by assumption) ?_; (conv => arg 1; whnf)) | (refine brf (by assumption) ?_; (conv => arg 1; whnf)) | fail))
    refine loopIn (fun i : Nat => i ≤ s.fl.toNat) (fun i => frm 91 [(1, i64 a), (2, i64 b), (3, i64 hold), (4, .p 0 0), (9, .s 1 1 0 s.fl.toNat), (30, i64 s.fl.toNat), (31, i64 i)]) (fun _ => [siteB s, .tab 1 s.fl.toNat (ttab s)]) (fun i => s.fl.toNat - i) 0 [0, 1] (Nat.zero_le _) (by decide) ?_ ?_ rfl fun i hi => ?_
    · repeat' (first | exact True.intro | exact Fit.dead _ | exact Fit.v _ | exact .i fun _ _ => rfl | exact Fit.ip | exact .p rfl | exact .q rfl | exact .s rfl | exact .y rfl | refine Fit.al ?_ | refine Fit.fl ?_ ?_ | refine And.intro ?_ ?_)
    · exact ⟨⟨_, rfl, .lit (by repeat' (first | exact True.intro | exact Fit.dead _ | exact Fit.v _ | exact .i fun _ _ => rfl | exact Fit.ip | exact .p rfl | exact .q rfl | exact .s rfl | exact .y rfl | refine Fit.al ?_ | refine Fit.fl ?_ ?_ | refine And.intro ?_ ?_))⟩, ⟨_, rfl, .tab fun _ _ => rfl⟩, trivial⟩
    · (conv => arg 1; whnf)
      refine br (fun hk => ?_) (fun hk => ?_)
      · have hk := of_decide_eq_true hk
        have e2 : (decide (0 ≤ (i : Int)) && decide ((i : Int) < ((s.fl.toNat : Nat) : Int))) = true := by simp only [Bool.and_eq_true, decide_eq_true_eq]; omega
        have e3 : decide (0 + (i : Int).toNat < s.fl.toNat) = true := decide_eq_true (by omega)
        (conv => arg 1; whnf); (repeat' (first | (refine brt (by assumption) ?_; (conv => arg 1; whnf)) | (refine brf (by assumption) ?_; (conv => arg 1; whnf)) | fail))
        refine loopIn (fun k : Nat => k ≤ s.fl.toNat) (fun k => frm 91 [(1, i64 a), (2, i64 b), (3, i64 hold), (4, .p 0 0), (9, .s 1 1 0 s.fl.toNat), (10, i64 i), (30, i64 s.fl.toNat), (31, i64 i), (46, i64 s.fl.toNat), (47, i64 k)]) (fun _ => [siteB s, .tab 1 s.fl.toNat (ttab s)]) (fun k => s.fl.toNat - k) 0 [0, 1] (Nat.zero_le _) (by decide) ?_ ?_ rfl fun k hk2 => ?_
        · repeat' (first | exact True.intro | exact Fit.dead _ | exact Fit.v _ | exact .i fun _ _ => rfl | exact Fit.ip | exact .p rfl | exact .q rfl | exact .s rfl | exact .y rfl | refine Fit.al ?_ | refine Fit.fl ?_ ?_ | refine And.intro ?_ ?_)
        · exact ⟨⟨_, rfl, .lit (by repeat' (first | exact True.intro | exact Fit.dead _ | exact Fit.v _ | exact .i fun _ _ => rfl | exact Fit.ip | exact .p rfl | exact .q rfl | exact .s rfl | exact .y rfl | refine Fit.al ?_ | refine Fit.fl ?_ ?_ | refine And.intro ?_ ?_))⟩, ⟨_, rfl, .tab fun _ _ => rfl⟩, trivial⟩
        · (conv => arg 1; whnf)
          refine br (fun hk3 => ?_) (fun hk3 => ?_)
          · have hk3 := of_decide_eq_true hk3
            have e4 : (decide (0 ≤ (k : Int)) && decide ((k : Int) < ((s.fl.toNat : Nat) : Int))) = true := by simp only [Bool.and_eq_true, decide_eq_true_eq]; omega
            have e5 : (!decide (s.travel ((0 + (i : Int).toNat : Nat) : Int) (((k : Int).toNat : Nat) : Int) = s.travel i k)) = false := by
              rw [show ((0 + (i : Int).toNat : Nat) : Int) = i by omega, show (((k : Int).toNat : Nat) : Int) = k by omega]; simp
            (conv => arg 1; whnf); (repeat' (first | (refine brt (by assumption) ?_; (conv => arg 1; whnf)) | (refine brf (by assumption) ?_; (conv => arg 1; whnf)) | fail))
            refine again (k + 1) [0, 1] ?_ ?_ (by decide) ?_ ?_ ?_
            · show k + 1 ≤ s.fl.toNat
              omega
            · show s.fl.toNat - (k + 1) < s.fl.toNat - k
              omega
            · repeat' (first | exact True.intro | exact Fit.dead _ | exact Fit.v _ | exact .i fun _ _ => rfl | exact Fit.ip | exact .p rfl | exact .q rfl | exact .s rfl | exact .y rfl | refine Fit.al ?_ | refine Fit.fl ?_ ?_ | refine And.intro ?_ ?_)
              exact Fit.v' (congrArg (Value.int .i64) (show ((k + 1 : Nat) : Int) = IntKind.i64.wrap ((k : Int) + 1) by rw [i64w _ (by omega) (by omega)]; omega))
            · exact ⟨⟨_, rfl, .lit (by repeat' (first | exact True.intro | exact Fit.dead _ | exact Fit.v _ | exact .i fun _ _ => rfl | exact Fit.ip | exact .p rfl | exact .q rfl | exact .s rfl | exact .y rfl | refine Fit.al ?_ | refine Fit.fl ?_ ?_ | refine And.intro ?_ ?_))⟩, ⟨_, rfl, .tab fun _ _ => rfl⟩, trivial⟩
            · rfl
          · (conv => arg 1; whnf)
            refine leave ?_
            show tr _
            (conv => arg 1; whnf); (repeat' (first | (refine brt (by assumption) ?_; (conv => arg 1; whnf)) | (refine brf (by assumption) ?_; (conv => arg 1; whnf)) | fail))
            refine again (i + 1) [0, 1] ?_ ?_ (by decide) ?_ ?_ ?_
            · show i + 1 ≤ s.fl.toNat
              omega
            · show s.fl.toNat - (i + 1) < s.fl.toNat - i
              omega
            · repeat' (first | exact True.intro | exact Fit.dead _ | exact Fit.v _ | exact .i fun _ _ => rfl | exact Fit.ip | exact .p rfl | exact .q rfl | exact .s rfl | exact .y rfl | refine Fit.al ?_ | refine Fit.fl ?_ ?_ | refine And.intro ?_ ?_)
              exact Fit.v' (congrArg (Value.int .i64) (show ((i + 1 : Nat) : Int) = IntKind.i64.wrap ((i : Int) + 1) by rw [i64w _ (by omega) (by omega)]; omega))
            · exact ⟨⟨_, rfl, .lit (by repeat' (first | exact True.intro | exact Fit.dead _ | exact Fit.v _ | exact .i fun _ _ => rfl | exact Fit.ip | exact .p rfl | exact .q rfl | exact .s rfl | exact .y rfl | refine Fit.al ?_ | refine Fit.fl ?_ ?_ | refine And.intro ?_ ?_))⟩, ⟨_, rfl, .tab fun _ _ => rfl⟩, trivial⟩
            · rfl
      · (conv => arg 1; whnf)
        refine leave ?_
        show tr _
        have f1 : decide (s.travel a b = s.travel a b) = true := by simp
        have f2 : decide (s.service hold = s.service hold) = true := by simp
        (conv => arg 1; whnf); (repeat' (first | (refine brt (by assumption) ?_; (conv => arg 1; whnf)) | (refine brf (by assumption) ?_; (conv => arg 1; whnf)) | fail))
        refine finB ?_
        exact (decide_eq_true (rfl : s.bound hold = s.bound hold)).symm
end Go.Proofs.Ytaneamfnjhiigaa.E
