/- Sets of floors: the nearest one. -/
import Derived.Test.YtaneamfnjhiigaaDoorFloorsDE
import Derived.Test.YtaneamfnjhiigaaDoorFloorsBitsE
namespace Go.Proofs.YtaneamfnjhiigaaDoor.E
open Go
set_option linter.unusedSimpArgs false
set_option linter.unusedVariables false
set_option maxRecDepth 100000
set_option maxHeartbeats 4000000
theorem bt_to (n : Int) {i : Nat} (hi : i < 64) : bt (toF n) i = decide ((i : Int) < n) := by rw [← has_bt hi, has_to (by omega) (by omega)]
theorem up_zero (s fr : Int) : UpI s fr 0 (bits .andNot .u64 s (toF fr)) := .zero (okU_andNot _ _) fun i hi => by
  rw [bt_andNot _ _ hi, bt_to _ hi]
  congr 1
  by_cases h : (i : Int) < fr
  · rw [decide_eq_true h, decide_eq_false (by omega)]; rfl
  · rw [decide_eq_false h, decide_eq_true (by omega)]; rfl
theorem dn_zero {s fr : Int} (h : fr < 64) (hm : IntKind.i64.wrap (fr + 1) = fr + 1) : DnI s fr 0 (bits .and .u64 s (toF (IntKind.i64.wrap (fr + 1)))) := .zero (okU_and _ _) fun i hi => by
  rw [bt_and, bt_to _ hi, hm]
  congr 1
  exact decide_eq_decide.2 (by omega)
theorem dn_zero' {s fr : Int} (hs : okU s) (h : 64 ≤ fr) : DnI s fr 0 s := .zero hs fun i hi => by rw [decide_eq_true (by omega : (i : Int) ≤ fr)]; simp
def XFu : Cx := (XF0.add 15 .pure (pureCtr toG)).add 21 .pure (pureCtr tzG)
theorem XFu_ok : CxOk Tryd.prog XFu := (XF0_ok.pure to_ok).pure tz_ok
def XFd : Cx := ((XF0.add 15 .pure (pureCtr toG)).add 23 .pure (pureCtr l8G)).add 19 .pure (pureCtr woutG)
theorem XFd_ok : CxOk Tryd.prog XFd := ((XF0_ok.pure to_ok).pure len_ok).pure wout_ok
noncomputable def XFi : Cx := (((XF0.addRun 7 (runFn XF0 Tryd.f7 (bodyOf Tryd.f7))).addRun 8 (runFn XF0 Tryd.f8 (bodyOf Tryd.f8))).addRun 20 (runFn XFu Tryd.f20 (bodyOf Tryd.f20))).addRun 22 (runFn XFd Tryd.f22 (bodyOf Tryd.f22))
theorem XFi_ok : CxOk Tryd.prog XFi := (((XF0_ok.addRun (runFn_ok XF0_ok Tryd.func7 (by decide) rfl)).addRun (runFn_ok XF0_ok Tryd.func8 (by decide) rfl)).addRun (runFn_ok XFu_ok Tryd.func20 (by decide) rfl)).addRun (runFn_ok XFd_ok Tryd.func22 (by decide) rfl)
noncomputable def XFn : Cx := XFi.addRun 25 (runFn XFi Tryd.f25 (bodyOf Tryd.f25))
theorem XFn_ok : CxOk Tryd.prog XFn := XFi_ok.addRun (runFn_ok XFi_ok Tryd.func25 (by decide) rfl)
def clampF (f : Int) : Int := mm true (mm false f 63) 0
theorem clamp_bd (f : Int) : 0 ≤ clampF f ∧ clampF f < 64 := by unfold clampF mm; simp only; split <;> split <;> omega
def nearF (s f : Int) : Int × Bool := match dnL s (clampF f) 64, upL s (clampF f) 64 with
  | [], [] => (0, false)
  | [], h :: _ => (h, true)
  | l :: _, [] => (l, true)
  | l :: _, h :: _ => cond (decide (h - clampF f < clampF f - l)) (h, true) (l, true)
theorem dn_mem {s f l : Int} {j : Nat} (h : l ∈ dnL s f j) : 0 ≤ l ∧ l < 64 ∧ l ≤ f := by
  unfold dnL at h
  obtain ⟨i, hi, rfl⟩ := List.mem_map.1 h
  have := (List.mem_filter.1 hi).2
  simp only [Bool.and_eq_true, decide_eq_true_eq] at this
  omega
theorem up_mem {s f l : Int} {m : Nat} (h : l ∈ upL s f m) (hm : m ≤ 64) : 0 ≤ l ∧ l < 64 ∧ f ≤ l := by
  unfold upL at h
  obtain ⟨i, hi, rfl⟩ := List.mem_map.1 h
  obtain ⟨h1, h2⟩ := List.mem_filter.1 hi
  have := List.mem_range.1 h1
  simp only [Bool.and_eq_true, decide_eq_true_eq] at h2
  omega
def nearG : List AV → Option (Bool × AV) := fn2 dU dI fun s f => giv (decide (0 ≤ s) && decide (s < 18446744073709551616)) (.t [i64 (nearF s f).1, boo (nearF s f).2])
theorem near_ok : CtrOk Tryd.prog 10 (pureCtr nearG) :=
  pureCtr_ok XFn_ok Tryd.func10 (by decide) rfl fun args u h => by
    obtain ⟨s, f, rfl, h⟩ := fn2_some h
    obtain ⟨hs, rfl⟩ := giv_some h
    simp only [Bool.and_eq_true, decide_eq_true_eq] at hs
    refine ⟨rfl, rfl, ?_⟩
    clear h
    have hc := clamp_bd f
    obtain ⟨a, ha⟩ : ∃ a, a = clampF f := ⟨_, rfl⟩
    rw [← ha] at hc
    have c1 : decide (a < 64) = true := decide_eq_true hc.2
    have D0 : DnI s a 0 (bits .and .u64 s (toF (IntKind.i64.wrap (a + 1)))) := dn_zero hc.2 (wrap_i64' _ (by omega) (by omega))
    have U0 : UpI s a 0 (bits .andNot .u64 s (toF a)) := up_zero s a
    unfold runF
    (conv => arg 1; whnf)
    rw [show mm true (mm false f 63) 0 = a from ha.symm]
    (conv => arg 1; whnf); (repeat' (first | (refine brt (by assumption) ?_; (conv => arg 1; whnf)) | (refine brf (by assumption) ?_; (conv => arg 1; whnf)) | fail))
    obtain ⟨x, hx⟩ : ∃ x, x = bits .and .u64 s (toF (IntKind.i64.wrap (a + 1))) := ⟨_, rfl⟩
    rw [← hx] at D0
    have cx : (decide (0 ≤ x) && decide (x < 18446744073709551616)) = true := and2 (decide_eq_true D0.ok.1) (decide_eq_true D0.ok.2)
    refine loopM [0, 4] (fun _ : Unit => True) (fun _ => [(4, u64 x)]) (fun _ => []) (fun _ => 0) () trivial rfl ?_ ?_ fun _ _ => ?_
    · rw [hx]; repeat' (first | exact True.intro | exact Fit.dead _ | exact Fit.v _ | exact .i fun _ _ => rfl | exact Fit.ip | exact .p rfl | exact .q rfl | exact .s rfl | exact .y rfl | exact Fit.z | exact ⟨_, rfl, .gone _⟩ | exact ⟨_, rfl, .lrec _⟩ | exact ⟨_, rfl, .held⟩ | exact ⟨_, rfl, .tab fun _ _ => rfl⟩ | refine Fit.al ?_ | refine Fit.fl ?_ ?_ | refine ⟨_, rfl, .lit ?_⟩ | refine And.intro ?_ ?_)
    · repeat' (first | exact True.intro | exact Fit.dead _ | exact Fit.v _ | exact .i fun _ _ => rfl | exact Fit.ip | exact .p rfl | exact .q rfl | exact .s rfl | exact .y rfl | exact Fit.z | exact ⟨_, rfl, .gone _⟩ | exact ⟨_, rfl, .lrec _⟩ | exact ⟨_, rfl, .held⟩ | exact ⟨_, rfl, .tab fun _ _ => rfl⟩ | refine Fit.al ?_ | refine Fit.fl ?_ ?_ | refine ⟨_, rfl, .lit ?_⟩ | refine And.intro ?_ ?_)
    obtain ⟨y, hy⟩ : ∃ y, y = bits .andNot .u64 s (toF a) := ⟨_, rfl⟩
    rw [← hy] at U0
    have cy : (decide (0 ≤ y) && decide (y < 18446744073709551616)) = true := and2 (decide_eq_true U0.ok.1) (decide_eq_true U0.ok.2)
    (conv => arg 1; whnf)
    refine br (fun h1 => ?_) (fun h1 => ?_)
    · have hx0 : ¬ x = 0 := by simpa using h1
      obtain ⟨d1, d2, d3, d4, d5, d6⟩ := D0.next hx0
      (conv => arg 1; whnf); (repeat' (first | (refine brt (by assumption) ?_; (conv => arg 1; whnf)) | (refine brf (by assumption) ?_; (conv => arg 1; whnf)) | fail))
      refine leaveRet ?_
      show tr _
      (conv => arg 1; whnf); (repeat' (first | (refine brt (by assumption) ?_; (conv => arg 1; whnf)) | (refine brf (by assumption) ?_; (conv => arg 1; whnf)) | fail))
      refine loopM [0, 4] (fun _ : Unit => True) (fun _ => [(4, u64 y)]) (fun _ => []) (fun _ => 0) () trivial rfl ?_ ?_ fun _ _ => ?_
      · rw [hy]; repeat' (first | exact True.intro | exact Fit.dead _ | exact Fit.v _ | exact .i fun _ _ => rfl | exact Fit.ip | exact .p rfl | exact .q rfl | exact .s rfl | exact .y rfl | exact Fit.z | exact ⟨_, rfl, .gone _⟩ | exact ⟨_, rfl, .lrec _⟩ | exact ⟨_, rfl, .held⟩ | exact ⟨_, rfl, .tab fun _ _ => rfl⟩ | refine Fit.al ?_ | refine Fit.fl ?_ ?_ | refine ⟨_, rfl, .lit ?_⟩ | refine And.intro ?_ ?_)
      · repeat' (first | exact True.intro | exact Fit.dead _ | exact Fit.v _ | exact .i fun _ _ => rfl | exact Fit.ip | exact .p rfl | exact .q rfl | exact .s rfl | exact .y rfl | exact Fit.z | exact ⟨_, rfl, .gone _⟩ | exact ⟨_, rfl, .lrec _⟩ | exact ⟨_, rfl, .held⟩ | exact ⟨_, rfl, .tab fun _ _ => rfl⟩ | refine Fit.al ?_ | refine Fit.fl ?_ ?_ | refine ⟨_, rfl, .lit ?_⟩ | refine And.intro ?_ ?_)
      (conv => arg 1; whnf)
      refine br (fun h2 => ?_) (fun h2 => ?_)
      · (conv => arg 1; whnf); (repeat' (first | (refine brt (by assumption) ?_; (conv => arg 1; whnf)) | (refine brf (by assumption) ?_; (conv => arg 1; whnf)) | fail))
        refine leaveRet ?_
        show tr _
        (conv => arg 1; whnf); (repeat' (first | (refine brt (by assumption) ?_; (conv => arg 1; whnf)) | (refine brf (by assumption) ?_; (conv => arg 1; whnf)) | fail))
        have hy0 : ¬ y = 0 := by simpa using h2
        obtain ⟨r1, hr1⟩ := dn_head D0 hx0
        obtain ⟨r2, hr2⟩ := up_head U0 hy0
        obtain ⟨u1, u2, u3, u4, u5, u6⟩ := U0.next hy0
        have ev : ∀ (z : Int × Bool), nearF s f = z → tr (Fin 0 (.t [i64 (nearF s f).1, boo (nearF s f).2]) [] (.t [i64 z.1, boo z.2]) []) := fun z hz => finT (by rw [hz]; exact ⟨.v _, .v _, trivial⟩)
        have hn : nearF s f = cond (decide ((lowI y : Int) - a < a - (topI x : Int))) ((lowI y : Int), true) ((topI x : Int), true) := by unfold nearF; rw [← ha, hr1, hr2]
        have et : tzN y = (lowI y : Int) := by unfold tzN; rw [if_neg hy0]
        have e1 : IntKind.i64.wrap (tzN y - a) = (lowI y : Int) - a := by rw [et]; exact wrap_i64' _ (by omega) (by omega)
        have e2 : IntKind.i64.wrap (a - IntKind.i64.wrap (lenI x - 1)) = a - (topI x : Int) := by rw [topV D0.ok hx0]; exact wrap_i64' _ (by omega) (by omega)
        refine br (fun h3 => ?_) (fun h3 => ?_)
        · (conv => arg 1; whnf); (repeat' (first | (refine brt (by assumption) ?_; (conv => arg 1; whnf)) | (refine brf (by assumption) ?_; (conv => arg 1; whnf)) | fail))
          rw [e1, e2] at h3
          rw [h3] at hn
          refine finT ?_
          rw [hn]
          exact ⟨Fit.v' (congrArg (Value.int .i64) et.symm), .v _, trivial⟩
        · (conv => arg 1; whnf); (repeat' (first | (refine brt (by assumption) ?_; (conv => arg 1; whnf)) | (refine brf (by assumption) ?_; (conv => arg 1; whnf)) | fail))
          rw [e1, e2] at h3
          rw [h3] at hn
          refine finT ?_
          rw [hn]
          exact ⟨Fit.v' (congrArg (Value.int .i64) (topV D0.ok hx0).symm), .v _, trivial⟩
      · (conv => arg 1; whnf); (repeat' (first | (refine brt (by assumption) ?_; (conv => arg 1; whnf)) | (refine brf (by assumption) ?_; (conv => arg 1; whnf)) | fail))
        refine leave ?_
        show tr _
        (conv => arg 1; whnf); (repeat' (first | (refine brt (by assumption) ?_; (conv => arg 1; whnf)) | (refine brf (by assumption) ?_; (conv => arg 1; whnf)) | fail))
        have hy0 : y = 0 := by simpa using h2
        obtain ⟨r1, hr1⟩ := dn_head D0 hx0
        have hr2 := up_none (hy0 ▸ U0)
        have hn : nearF s f = ((topI x : Int), true) := by unfold nearF; rw [← ha, hr1, hr2]
        refine finT ?_
        rw [hn]
        exact ⟨Fit.v' (congrArg (Value.int .i64) (topV D0.ok hx0).symm), .v _, trivial⟩
    · (conv => arg 1; whnf); (repeat' (first | (refine brt (by assumption) ?_; (conv => arg 1; whnf)) | (refine brf (by assumption) ?_; (conv => arg 1; whnf)) | fail))
      refine leave ?_
      show tr _
      (conv => arg 1; whnf); (repeat' (first | (refine brt (by assumption) ?_; (conv => arg 1; whnf)) | (refine brf (by assumption) ?_; (conv => arg 1; whnf)) | fail))
      refine loopM [0, 4] (fun _ : Unit => True) (fun _ => [(4, u64 y)]) (fun _ => []) (fun _ => 0) () trivial rfl ?_ ?_ fun _ _ => ?_
      · rw [hy]; repeat' (first | exact True.intro | exact Fit.dead _ | exact Fit.v _ | exact .i fun _ _ => rfl | exact Fit.ip | exact .p rfl | exact .q rfl | exact .s rfl | exact .y rfl | exact Fit.z | exact ⟨_, rfl, .gone _⟩ | exact ⟨_, rfl, .lrec _⟩ | exact ⟨_, rfl, .held⟩ | exact ⟨_, rfl, .tab fun _ _ => rfl⟩ | refine Fit.al ?_ | refine Fit.fl ?_ ?_ | refine ⟨_, rfl, .lit ?_⟩ | refine And.intro ?_ ?_)
      · repeat' (first | exact True.intro | exact Fit.dead _ | exact Fit.v _ | exact .i fun _ _ => rfl | exact Fit.ip | exact .p rfl | exact .q rfl | exact .s rfl | exact .y rfl | exact Fit.z | exact ⟨_, rfl, .gone _⟩ | exact ⟨_, rfl, .lrec _⟩ | exact ⟨_, rfl, .held⟩ | exact ⟨_, rfl, .tab fun _ _ => rfl⟩ | refine Fit.al ?_ | refine Fit.fl ?_ ?_ | refine ⟨_, rfl, .lit ?_⟩ | refine And.intro ?_ ?_)
      (conv => arg 1; whnf)
      refine br (fun h2 => ?_) (fun h2 => ?_)
      · (conv => arg 1; whnf); (repeat' (first | (refine brt (by assumption) ?_; (conv => arg 1; whnf)) | (refine brf (by assumption) ?_; (conv => arg 1; whnf)) | fail))
        refine leaveRet ?_
        show tr _
        (conv => arg 1; whnf); (repeat' (first | (refine brt (by assumption) ?_; (conv => arg 1; whnf)) | (refine brf (by assumption) ?_; (conv => arg 1; whnf)) | fail))
        have hx0 : x = 0 := by simpa using h1
        have hy0 : ¬ y = 0 := by simpa using h2
        have hr1 := dn_none (hx0 ▸ D0)
        obtain ⟨r2, hr2⟩ := up_head U0 hy0
        have et : tzN y = (lowI y : Int) := by unfold tzN; rw [if_neg hy0]
        have hn : nearF s f = ((lowI y : Int), true) := by unfold nearF; rw [← ha, hr1, hr2]
        refine finT ?_
        rw [hn]
        exact ⟨Fit.v' (congrArg (Value.int .i64) et.symm), .v _, trivial⟩
      · (conv => arg 1; whnf); (repeat' (first | (refine brt (by assumption) ?_; (conv => arg 1; whnf)) | (refine brf (by assumption) ?_; (conv => arg 1; whnf)) | fail))
        refine leave ?_
        show tr _
        (conv => arg 1; whnf); (repeat' (first | (refine brt (by assumption) ?_; (conv => arg 1; whnf)) | (refine brf (by assumption) ?_; (conv => arg 1; whnf)) | fail))
        have hx0 : x = 0 := by simpa using h1
        have hy0 : y = 0 := by simpa using h2
        have hr1 := dn_none (hx0 ▸ D0)
        have hr2 := up_none (hy0 ▸ U0)
        have hn : nearF s f = (0, false) := by unfold nearF; rw [← ha, hr1, hr2]
        refine finT ?_
        rw [hn]
        exact ⟨.v _, .v _, trivial⟩
end Go.Proofs.YtaneamfnjhiigaaDoor.E
