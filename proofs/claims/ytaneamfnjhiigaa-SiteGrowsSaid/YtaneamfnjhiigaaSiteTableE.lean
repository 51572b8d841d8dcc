/- The contract of the table of travels. -/
import Derived.Test.YtaneamfnjhiigaaSiteTimesE
namespace Go.Proofs.Ytaneamfnjhiigaa.E
open Go NumMath
set_option linter.unusedSimpArgs false
set_option linter.unusedVariables false
set_option maxRecDepth 100000
set_option maxHeartbeats 4000000

abbrev siteB (s : Site) : Blk := .lit [i64 s.fl, i64 s.ca, i64 s.st, i64 s.sp, i64 s.so, i64 s.op, i64 s.wa, i64 s.cl, i64 s.nu, i64 s.ag, i64 s.si, i64 s.bu, i64 s.pe]
/-- A floor's row of travels. -/
def trow (s : Site) (i : Nat) (j : Nat) : List AV := [i64 (s.travel i j)]
def ttab (s : Site) (i : Nat) : List AV := [.i 1 s.fl.toNat (trow s i)]
def tableG : List AV → St → Option (Bool × AV × St)
  | [u], [] => match dSite.dec u with
    | some s => some (s.right, .s 0 1 0 s.fl.toNat, [.tab 1 s.fl.toNat (ttab s)])
    | none => none
  | _, _ => none
theorem table_ok : CtrOk Try.prog 17 (localCtr tableG) :=
  localCtr_ok XT2_ok Try.func17 (by decide) rfl fun args σ u σ' h => by
    unfold tableG at h
    split at h
    case h_2 => cases h
    split at h
    case h_2 => cases h
    rename_i s hs
    obtain rfl := dSite.ok hs
    simp only [Option.some.injEq, Prod.mk.injEq] at h
    obtain ⟨hr, rfl, rfl⟩ := h
    clear hs
    have hb := Site.right_bd hr
    have hmm : mm false s.fl 64 = s.fl := by unfold mm; simp only; split <;> omega
    unfold runF
    (conv => arg 1; whnf)
    refine loopInC (fun k : Nat => k ≤ s.fl.toNat) (fun k => frm 32 [(1, .p 0 0), (2, .s 1 1 0 k), (8, i64 s.fl), (9, i64 k)]) (fun k => [siteB s, .tab 1 k (ttab s)]) (fun k => s.fl.toNat - k) 0 (Nat.zero_le _)
      (.slot 2 1 _ _ rfl (by decide) .nil (.mk [0, 1] (by decide) ?_ ?_ rfl)) fun k hi => ?_
    · repeat' (first | exact True.intro | exact Fit.dead _ | exact Fit.v _ | exact .i fun _ _ => rfl | exact Fit.ip | exact .p rfl | exact .q rfl | exact .s rfl | exact .y rfl | refine Fit.al ?_ | refine Fit.fl ?_ ?_ | refine And.intro ?_ ?_)
      exact Fit.v' (congrArg (Value.int .i64) hmm.symm)
    · exact ⟨⟨_, rfl, .lit (by repeat' (first | exact True.intro | exact Fit.dead _ | exact Fit.v _ | exact .i fun _ _ => rfl | exact Fit.ip | exact .p rfl | exact .q rfl | exact .s rfl | exact .y rfl | refine Fit.al ?_ | refine Fit.fl ?_ ?_ | refine And.intro ?_ ?_))⟩, ⟨_, rfl, .tab fun j hj => by omega⟩, trivial⟩
    · (conv => arg 1; whnf)
      refine br (fun hk => ?_) (fun hk => ?_)
      · have hk := of_decide_eq_true hk
        (conv => arg 1; whnf); (repeat' (first | (refine brt (by assumption) ?_; (conv => arg 1; whnf)) | (refine brf (by assumption) ?_; (conv => arg 1; whnf)) | fail))
        refine loopInC (fun j : Nat => j ≤ s.fl.toNat) (fun j => frm 32 [(1, .p 0 0), (2, .s 1 1 0 k), (3, i64 k), (4, .s 2 1 0 j), (8, i64 s.fl), (9, i64 k), (14, i64 s.fl), (15, i64 j)]) (fun j => [siteB s, .tab 1 k (ttab s), .tab 1 j (trow s k)]) (fun j => s.fl.toNat - j) 0 (Nat.zero_le _)
          (.slot 4 1 _ _ rfl (by decide) .nil (.mk [0, 1, 2] (by decide) ?_ ?_ rfl)) fun j hj => ?_
        · repeat' (first | exact True.intro | exact Fit.dead _ | exact Fit.v _ | exact .i fun _ _ => rfl | exact Fit.ip | exact .p rfl | exact .q rfl | exact .s rfl | exact .y rfl | refine Fit.al ?_ | refine Fit.fl ?_ ?_ | refine And.intro ?_ ?_)
          exact Fit.v' (congrArg (Value.int .i64) hmm.symm)
        · exact ⟨⟨_, rfl, .lit (by repeat' (first | exact True.intro | exact Fit.dead _ | exact Fit.v _ | exact .i fun _ _ => rfl | exact Fit.ip | exact .p rfl | exact .q rfl | exact .s rfl | exact .y rfl | refine Fit.al ?_ | refine Fit.fl ?_ ?_ | refine And.intro ?_ ?_))⟩, ⟨_, rfl, .tab fun _ _ => rfl⟩, ⟨_, rfl, .tab fun j hj => by omega⟩, trivial⟩
        · (conv => arg 1; whnf)
          refine br (fun hk' => ?_) (fun hk' => ?_)
          · have hk' := of_decide_eq_true hk'
            have hr' : Site.right ⟨s.fl, s.ca, s.st, s.sp, s.so, s.op, s.wa, s.cl, s.nu, s.ag, s.si, s.bu, s.pe⟩ = true := hr
            have ea : ((0 + j).ble j && ((0 + 1).ble 1 && (j + 1).ble 4294967295)) = true := by simp only [Bool.and_eq_true, Nat.ble_eq]; omega
            (conv => arg 1; whnf); (repeat' (first | (refine brt (by assumption) ?_; (conv => arg 1; whnf)) | (refine brf (by assumption) ?_; (conv => arg 1; whnf)) | fail))
            refine again (j + 1) [0, 1, 4] ?_ ?_ (by decide) ?_ ?_ ?_
            · show j + 1 ≤ s.fl.toNat
              omega
            · show s.fl.toNat - (j + 1) < s.fl.toNat - j
              omega
            · repeat' (first | exact True.intro | exact Fit.dead _ | exact Fit.v _ | exact .i fun _ _ => rfl | exact Fit.ip | exact .p rfl | exact .q rfl | exact .s rfl | exact .y rfl | refine Fit.al ?_ | refine Fit.fl ?_ ?_ | refine And.intro ?_ ?_)
              exact Fit.v' (congrArg (Value.int .i64) (show ((j + 1 : Nat) : Int) = IntKind.i64.wrap ((j : Int) + 1) by rw [i64w _ (by omega) (by omega)]; omega))
            · refine ⟨⟨_, rfl, .lit (by repeat' (first | exact True.intro | exact Fit.dead _ | exact Fit.v _ | exact .i fun _ _ => rfl | exact Fit.ip | exact .p rfl | exact .q rfl | exact .s rfl | exact .y rfl | refine Fit.al ?_ | refine Fit.fl ?_ ?_ | refine And.intro ?_ ?_))⟩, ⟨_, rfl, .tab fun _ _ => rfl⟩, ⟨_, rfl, .tab fun q hq => ?_⟩, trivial⟩
              unfold joined
              split
              · exact congrArg (trow s k) (by omega)
              · obtain rfl : q = j := by omega
                rw [show q - q = 0 by omega]
                rfl
            · rfl
          · have hk' := of_decide_eq_false hk'
            obtain rfl : j = s.fl.toNat := by omega
            (conv => arg 1; whnf)
            refine leaveC (frm 32 [(1, .p 0 0), (2, .s 1 1 0 k), (4, .i 1 s.fl.toNat (trow s k)), (8, i64 s.fl), (9, i64 k)]) [siteB s, .tab 1 k (ttab s)] (.mk [0, 1] (by decide) ?_ ?_ rfl) ?_
            · repeat' (first | exact True.intro | exact Fit.dead _ | exact Fit.v _ | exact .i fun _ _ => rfl | exact Fit.ip | exact .p rfl | exact .q rfl | exact .s rfl | exact .y rfl | refine Fit.al ?_ | refine Fit.fl ?_ ?_ | refine And.intro ?_ ?_)
              exact Fit.fz (show _ = _ from rfl) (by decide) (by omega) fun q hq => congrArg (trow s k) (by omega)
            · exact ⟨⟨_, rfl, .lit (by repeat' (first | exact True.intro | exact Fit.dead _ | exact Fit.v _ | exact .i fun _ _ => rfl | exact Fit.ip | exact .p rfl | exact .q rfl | exact .s rfl | exact .y rfl | refine Fit.al ?_ | refine Fit.fl ?_ ?_ | refine And.intro ?_ ?_))⟩, ⟨_, rfl, .tab fun _ _ => rfl⟩, trivial⟩
            · show tr _
              have ea : ((0 + k).ble k && ((0 + 1).ble 1 && (k + 1).ble 4294967295)) = true := by simp only [Bool.and_eq_true, Nat.ble_eq]; omega
              (conv => arg 1; whnf); (repeat' (first | (refine brt (by assumption) ?_; (conv => arg 1; whnf)) | (refine brf (by assumption) ?_; (conv => arg 1; whnf)) | fail))
              refine again (k + 1) [0, 3] ?_ ?_ (by decide) ?_ ?_ ?_
              · show k + 1 ≤ s.fl.toNat
                omega
              · show s.fl.toNat - (k + 1) < s.fl.toNat - k
                omega
              · repeat' (first | exact True.intro | exact Fit.dead _ | exact Fit.v _ | exact .i fun _ _ => rfl | exact Fit.ip | exact .p rfl | exact .q rfl | exact .s rfl | exact .y rfl | refine Fit.al ?_ | refine Fit.fl ?_ ?_ | refine And.intro ?_ ?_)
                exact Fit.v' (congrArg (Value.int .i64) (show ((k + 1 : Nat) : Int) = IntKind.i64.wrap ((k : Int) + 1) by rw [i64w _ (by omega) (by omega)]; omega))
              · refine ⟨⟨_, rfl, .lit (by repeat' (first | exact True.intro | exact Fit.dead _ | exact Fit.v _ | exact .i fun _ _ => rfl | exact Fit.ip | exact .p rfl | exact .q rfl | exact .s rfl | exact .y rfl | refine Fit.al ?_ | refine Fit.fl ?_ ?_ | refine And.intro ?_ ?_))⟩, ⟨_, rfl, .tab fun q hq => ?_⟩, trivial⟩
                unfold joined
                split
                · exact congrArg (ttab s) (by omega)
                · obtain rfl : q = k := by omega
                  rw [show q - q = 0 by omega]
                  rfl
              · rfl
      · have hk := of_decide_eq_false hk
        obtain rfl : k = s.fl.toNat := by omega
        (conv => arg 1; whnf)
        refine leave ?_
        show tr _
        (conv => arg 1; whnf); (repeat' (first | (refine brt (by assumption) ?_; (conv => arg 1; whnf)) | (refine brf (by assumption) ?_; (conv => arg 1; whnf)) | fail))
        exact .mk [1] (by decide) ⟨.s rfl, trivial⟩ ⟨⟨_, rfl, .tab fun _ _ => rfl⟩, trivial⟩ rfl
theorem rtravel_ok : CtrOk Try.prog 18 (pureCtr travelG) :=
  pureCtr_ok XR0_ok Try.func18 (by decide) rfl fun args u hh => by
    obtain ⟨s, f, t, rfl, hv⟩ := fn3_some hh
    obtain ⟨hr, rfl⟩ := giv_some hv
    clear hh hv
    refine ⟨rfl, rfl, ?_⟩
    have hb := Site.right_bd hr
    unfold runF
    (conv => arg 1; whnf)
    repeat' (first | (refine brt (by assumption) ?_; (conv => arg 1; whnf)) | (refine brf (by assumption) ?_; (conv => arg 1; whnf)) | (refine br (fun h => ?_) (fun h => ?_) <;> ((conv => arg 1; whnf))))
    all_goals try (refine finI ?_; simp only [decide_eq_true_eq, decide_eq_false_iff_not] at *; unfold Site.travel; rw [if_pos (by omega)]; done)
    rename_i h1 h2 h3 h4
    simp only [decide_eq_true_eq, decide_eq_false_iff_not] at h1 h2 h3 h4 h
    have key : ∀ x y : Int, f ≤ x → x < s.fl → t ≤ y → y ≤ x → 0 ≤ s.sp * (x - f) ∧ s.sp * (x - f) ≤ 63000 ∧ 0 ≤ s.sp * (x - y) ∧ s.sp * (x - y) ≤ 63000 := fun x y a1 a2 a3 a4 => by
      have := mulr (a := s.sp) (b := x - f) (m := 1000) (n := 63) (by omega) (by omega) (by omega) (by omega)
      have := mulr (a := s.sp) (b := x - y) (m := 1000) (n := 63) (by omega) (by omega) (by omega) (by omega)
      omega
    have stp : ∀ a : Int, s.sp * (a + 1) = s.sp * a + s.sp := fun a => by rw [Int.mul_add]; omega
    refine loopIn (fun x : Int => f ≤ x ∧ (x ≤ t ∨ x = f)) (fun x => frm 55 [(1, i64 x), (2, i64 t), (3, .p 0 0), (7, i64 (s.st + s.so + s.sp * (x - f)))]) (fun _ => [siteB s]) (fun x => (t - x).toNat) f [0] ⟨Int.le_refl _, .inr rfl⟩ (by decide) ?_ ?_ rfl fun x hi => ?_
    · repeat' (first | exact True.intro | exact Fit.dead _ | exact Fit.v _ | exact .i fun _ _ => rfl | exact Fit.ip | exact .p rfl | exact .q rfl | exact .s rfl | exact .y rfl | refine Fit.al ?_ | refine Fit.fl ?_ ?_ | refine And.intro ?_ ?_)
      exact Fit.v' (congrArg (Value.int .i64) (show s.st + s.so + s.sp * (f - f) = IntKind.i64.wrap (s.st + s.so) by rw [i64w _ (by omega) (by omega), show f - f = 0 by omega]; omega))
    · exact ⟨⟨_, rfl, .lit (by repeat' (first | exact True.intro | exact Fit.dead _ | exact Fit.v _ | exact .i fun _ _ => rfl | exact Fit.ip | exact .p rfl | exact .q rfl | exact .s rfl | exact .y rfl | refine Fit.al ?_ | refine Fit.fl ?_ ?_ | refine And.intro ?_ ?_))⟩, trivial⟩
    · obtain ⟨i1, i2⟩ := hi
      have k1 := key x x i1 (by omega)
      (conv => arg 1; whnf)
      refine br (fun hx => ?_) (fun hx => ?_)
      · have hx := of_decide_eq_true hx
        have k2 := mulr (a := s.sp) (b := x - f) (m := 1000) (n := 63) (by omega) (by omega) (by omega) (by omega)
        (conv => arg 1; whnf)
        refine again (x + 1) [0] ?_ ?_ (by decide) ?_ ?_ ?_
        · exact ⟨by omega, .inl (by omega)⟩
        · show (t - (x + 1)).toNat < (t - x).toNat
          omega
        · repeat' (first | exact True.intro | exact Fit.dead _ | exact Fit.v _ | exact .i fun _ _ => rfl | exact Fit.ip | exact .p rfl | exact .q rfl | exact .s rfl | exact .y rfl | refine Fit.al ?_ | refine Fit.fl ?_ ?_ | refine And.intro ?_ ?_)
          · exact Fit.v' (congrArg (Value.int .i64) (show x + 1 = IntKind.i64.wrap (x + 1) by rw [i64w _ (by omega) (by omega)]))
          · exact Fit.v' (congrArg (Value.int .i64) (show s.st + s.so + s.sp * (x + 1 - f) = IntKind.i64.wrap (s.st + s.so + s.sp * (x - f) + s.sp) by rw [i64w _ (by omega) (by omega), show x + 1 - f = (x - f) + 1 by omega, stp]; omega))
        · exact ⟨⟨_, rfl, .lit (by repeat' (first | exact True.intro | exact Fit.dead _ | exact Fit.v _ | exact .i fun _ _ => rfl | exact Fit.ip | exact .p rfl | exact .q rfl | exact .s rfl | exact .y rfl | refine Fit.al ?_ | refine Fit.fl ?_ ?_ | refine And.intro ?_ ?_))⟩, trivial⟩
        · rfl
      · have hx := of_decide_eq_false hx
        (conv => arg 1; whnf)
        refine leave ?_
        show tr _
        (conv => arg 1; whnf)
        refine loopIn (fun y : Int => t ≤ y ∧ y ≤ x) (fun y => frm 55 [(1, i64 y), (2, i64 t), (3, .p 0 0), (7, i64 (s.st + s.so + s.sp * (x - f) + s.sp * (x - y)))]) (fun _ => [siteB s]) (fun y => (y - t).toNat) x [0] ⟨by omega, Int.le_refl _⟩ (by decide) ?_ ?_ rfl fun y hi => ?_
        · repeat' (first | exact True.intro | exact Fit.dead _ | exact Fit.v _ | exact .i fun _ _ => rfl | exact Fit.ip | exact .p rfl | exact .q rfl | exact .s rfl | exact .y rfl | refine Fit.al ?_ | refine Fit.fl ?_ ?_ | refine And.intro ?_ ?_)
          exact Fit.v' (congrArg (Value.int .i64) (show s.st + s.so + s.sp * (x - f) + s.sp * (x - x) = s.st + s.so + s.sp * (x - f) by rw [show x - x = 0 by omega]; omega))
        · exact ⟨⟨_, rfl, .lit (by repeat' (first | exact True.intro | exact Fit.dead _ | exact Fit.v _ | exact .i fun _ _ => rfl | exact Fit.ip | exact .p rfl | exact .q rfl | exact .s rfl | exact .y rfl | refine Fit.al ?_ | refine Fit.fl ?_ ?_ | refine And.intro ?_ ?_))⟩, trivial⟩
        · obtain ⟨j1, j2⟩ := hi
          have k2 := key x y i1 (by omega) j1 j2
          (conv => arg 1; whnf)
          refine br (fun hy => ?_) (fun hy => ?_)
          · have hy := of_decide_eq_true hy
            (conv => arg 1; whnf)
            refine again (y - 1) [0] ?_ ?_ (by decide) ?_ ?_ ?_
            · exact ⟨by omega, by omega⟩
            · show (y - 1 - t).toNat < (y - t).toNat
              omega
            · repeat' (first | exact True.intro | exact Fit.dead _ | exact Fit.v _ | exact .i fun _ _ => rfl | exact Fit.ip | exact .p rfl | exact .q rfl | exact .s rfl | exact .y rfl | refine Fit.al ?_ | refine Fit.fl ?_ ?_ | refine And.intro ?_ ?_)
              · exact Fit.v' (congrArg (Value.int .i64) (show y - 1 = IntKind.i64.wrap (y - 1) by rw [i64w _ (by omega) (by omega)]))
              · exact Fit.v' (congrArg (Value.int .i64) (show s.st + s.so + s.sp * (x - f) + s.sp * (x - (y - 1)) = IntKind.i64.wrap (s.st + s.so + s.sp * (x - f) + s.sp * (x - y) + s.sp) by rw [i64w _ (by omega) (by omega), show x - (y - 1) = (x - y) + 1 by omega, stp]; omega))
            · exact ⟨⟨_, rfl, .lit (by repeat' (first | exact True.intro | exact Fit.dead _ | exact Fit.v _ | exact .i fun _ _ => rfl | exact Fit.ip | exact .p rfl | exact .q rfl | exact .s rfl | exact .y rfl | refine Fit.al ?_ | refine Fit.fl ?_ ?_ | refine And.intro ?_ ?_))⟩, trivial⟩
            · rfl
          · have hy := of_decide_eq_false hy
            obtain rfl : y = t := by omega
            (conv => arg 1; whnf)
            refine leave ?_
            show tr _
            (conv => arg 1; whnf)
            refine finI ?_
            show s.travel f y = s.st + s.so + s.sp * (x - f) + s.sp * (x - y)
            unfold Site.travel
            rw [if_neg (by omega)]
            unfold Site.ride
            have hd : s.sp * (if f < y then y - f else f - y) = s.sp * (x - f) + s.sp * (x - y) := by
              rw [← Int.mul_add]
              congr 1
              split <;> omega
            rw [hd]
            omega
theorem rservice_ok : CtrOk Try.prog 19 (pureCtr serviceG) :=
  pureCtr_ok XR0_ok Try.func19 (by decide) rfl fun args u hh => by
    obtain ⟨s, h0, rfl, hv⟩ := fn2_some hh
    obtain ⟨hr, rfl⟩ := giv_some hv
    clear hh hv
    refine ⟨rfl, rfl, ?_⟩
    have hb := Site.right_bd hr
    have hc := clampH_bd h0
    have h2 := Site.ride_bd hr (f := s.fl - 1) (by omega) (by omega)
    have hride : s.ride (s.fl - 1) = s.st + s.sp * (s.fl - 1) + s.so := rfl
    have hdoor : s.door = s.op + s.wa + s.cl + 4 := rfl
    have key : ∀ k : Nat, (k : Int) ≤ s.nu → 0 ≤ (k : Int) * (s.door + clampH h0) ∧ (k : Int) * (s.door + clampH h0) ≤ 10030040 := fun k hk => by
      have := mulr (a := (k : Int)) (b := s.door + clampH h0) (m := 10) (n := 1003004) (by omega) (by omega) (by omega) (by omega)
      omega
    have stp : ∀ k : Nat, ((k + 1 : Nat) : Int) * (s.door + clampH h0) = (k : Int) * (s.door + clampH h0) + (s.door + clampH h0) := fun k => by
      rw [show ((k + 1 : Nat) : Int) = (k : Int) + 1 by omega, Int.add_mul]; omega
    have w1 : IntKind.i64.wrap (s.fl - 1) = s.fl - 1 := i64w _ (by omega) (by omega)
    have w2 : IntKind.i64.wrap (s.sp * (s.fl - 1)) = s.sp * (s.fl - 1) := i64w _ (by omega) (by omega)
    have w3 : IntKind.i64.wrap (IntKind.i64.wrap (s.st + s.sp * (s.fl - 1)) + s.so) = s.ride (s.fl - 1) := by rw [i64w (s.st + _) (by omega) (by omega), i64w _ (by omega) (by omega)]; rfl
    have w4 : IntKind.i64.wrap (IntKind.i64.wrap (IntKind.i64.wrap (s.op + s.wa) + s.cl) + 4) = s.door := by rw [i64w (s.op + _) (by omega) (by omega), i64w (s.op + s.wa + _) (by omega) (by omega), i64w _ (by omega) (by omega)]; rfl
    unfold runF
    (conv => arg 1; whnf)
    repeat' (first | (refine brt (by assumption) ?_; (conv => arg 1; whnf)) | (refine brf (by assumption) ?_; (conv => arg 1; whnf)) | (refine br (fun h => ?_) (fun h => ?_) <;> ((conv => arg 1; whnf))))
    all_goals (simp only [decide_eq_true_eq, decide_eq_false_iff_not] at *)
    · refine loopIn (fun k : Nat => (k : Int) ≤ s.nu) (fun k => frm 54 [(1, i64 (clampH h0)), (2, .p 0 0), (5, i64 (s.ride (s.fl - 1) + s.door + k * (s.door + clampH h0))), (6, i64 k)]) (fun _ => [siteB s]) (fun k => (s.nu - k).toNat) 0 [0] (by show (0 : Int) ≤ s.nu; omega) (by decide) ?_ ?_ rfl fun k hk => ?_
      · repeat' (first | exact True.intro | exact Fit.dead _ | exact Fit.v _ | exact .i fun _ _ => rfl | exact Fit.ip | exact .p rfl | exact .q rfl | exact .s rfl | exact .y rfl | refine Fit.al ?_ | refine Fit.fl ?_ ?_ | refine And.intro ?_ ?_)
        · exact Fit.v' (congrArg (Value.int .i64) (show clampH h0 = 0 by unfold clampH mm; simp only; (repeat' split) <;> omega))
        · exact Fit.v' (congrArg (Value.int .i64) (show s.ride (s.fl - 1) + s.door + ((0 : Nat) : Int) * (s.door + clampH h0) = IntKind.i64.wrap (IntKind.i64.wrap (IntKind.i64.wrap (s.st + IntKind.i64.wrap (s.sp * IntKind.i64.wrap (s.fl - 1))) + s.so) + IntKind.i64.wrap (IntKind.i64.wrap (IntKind.i64.wrap (s.op + s.wa) + s.cl) + 4)) by rw [w1, w2, w3, w4, i64w _ (by omega) (by omega)]; omega))
      · exact ⟨⟨_, rfl, .lit (by repeat' (first | exact True.intro | exact Fit.dead _ | exact Fit.v _ | exact .i fun _ _ => rfl | exact Fit.ip | exact .p rfl | exact .q rfl | exact .s rfl | exact .y rfl | refine Fit.al ?_ | refine Fit.fl ?_ ?_ | refine And.intro ?_ ?_))⟩, trivial⟩
      · have k1 := key k hk
        (conv => arg 1; whnf)
        refine br (fun hy => ?_) (fun hy => ?_)
        · have hy := of_decide_eq_true hy
          have k2 := key (k + 1) (by omega)
          have k3 := stp k
          (conv => arg 1; whnf)
          refine again (k + 1) [0] ?_ ?_ (by decide) ?_ ?_ ?_
          · show ((k + 1 : Nat) : Int) ≤ s.nu
            omega
          · show (s.nu - (k + 1 : Nat)).toNat < (s.nu - k).toNat
            omega
          · repeat' (first | exact True.intro | exact Fit.dead _ | exact Fit.v _ | exact .i fun _ _ => rfl | exact Fit.ip | exact .p rfl | exact .q rfl | exact .s rfl | exact .y rfl | refine Fit.al ?_ | refine Fit.fl ?_ ?_ | refine And.intro ?_ ?_)
            · exact Fit.v' (congrArg (Value.int .i64) (show s.ride (s.fl - 1) + s.door + ((k + 1 : Nat) : Int) * (s.door + clampH h0) = IntKind.i64.wrap (s.ride (s.fl - 1) + s.door + (k : Int) * (s.door + clampH h0) + IntKind.i64.wrap (IntKind.i64.wrap (IntKind.i64.wrap (IntKind.i64.wrap (s.op + s.wa) + s.cl) + 4) + clampH h0)) by rw [w4, i64w (s.door + clampH h0) (by omega) (by omega), i64w _ (by omega) (by omega), k3]; omega))
            · exact Fit.v' (congrArg (Value.int .i64) (show ((k + 1 : Nat) : Int) = IntKind.i64.wrap ((k : Int) + 1) by rw [i64w _ (by omega) (by omega)]; omega))
          · exact ⟨⟨_, rfl, .lit (by repeat' (first | exact True.intro | exact Fit.dead _ | exact Fit.v _ | exact .i fun _ _ => rfl | exact Fit.ip | exact .p rfl | exact .q rfl | exact .s rfl | exact .y rfl | refine Fit.al ?_ | refine Fit.fl ?_ ?_ | refine And.intro ?_ ?_))⟩, trivial⟩
          · rfl
        · have hy := of_decide_eq_false hy
          have hk2 : (k : Int) = s.nu := by omega
          (conv => arg 1; whnf)
          refine leave ?_
          show tr _
          (conv => arg 1; whnf)
          refine finI ?_
          show s.service h0 = s.ride (s.fl - 1) + s.door + (k : Int) * (s.door + clampH h0)
          rw [hk2]; rfl
    · refine loopIn (fun k : Nat => (k : Int) ≤ s.nu) (fun k => frm 54 [(1, i64 (clampH h0)), (2, .p 0 0), (5, i64 (s.ride (s.fl - 1) + s.door + k * (s.door + clampH h0))), (6, i64 k)]) (fun _ => [siteB s]) (fun k => (s.nu - k).toNat) 0 [0] (by show (0 : Int) ≤ s.nu; omega) (by decide) ?_ ?_ rfl fun k hk => ?_
      · repeat' (first | exact True.intro | exact Fit.dead _ | exact Fit.v _ | exact .i fun _ _ => rfl | exact Fit.ip | exact .p rfl | exact .q rfl | exact .s rfl | exact .y rfl | refine Fit.al ?_ | refine Fit.fl ?_ ?_ | refine And.intro ?_ ?_)
        · exact Fit.v' (congrArg (Value.int .i64) (show clampH h0 = 1000000 by unfold clampH mm; simp only; (repeat' split) <;> omega))
        · exact Fit.v' (congrArg (Value.int .i64) (show s.ride (s.fl - 1) + s.door + ((0 : Nat) : Int) * (s.door + clampH h0) = IntKind.i64.wrap (IntKind.i64.wrap (IntKind.i64.wrap (s.st + IntKind.i64.wrap (s.sp * IntKind.i64.wrap (s.fl - 1))) + s.so) + IntKind.i64.wrap (IntKind.i64.wrap (IntKind.i64.wrap (s.op + s.wa) + s.cl) + 4)) by rw [w1, w2, w3, w4, i64w _ (by omega) (by omega)]; omega))
      · exact ⟨⟨_, rfl, .lit (by repeat' (first | exact True.intro | exact Fit.dead _ | exact Fit.v _ | exact .i fun _ _ => rfl | exact Fit.ip | exact .p rfl | exact .q rfl | exact .s rfl | exact .y rfl | refine Fit.al ?_ | refine Fit.fl ?_ ?_ | refine And.intro ?_ ?_))⟩, trivial⟩
      · have k1 := key k hk
        (conv => arg 1; whnf)
        refine br (fun hy => ?_) (fun hy => ?_)
        · have hy := of_decide_eq_true hy
          have k2 := key (k + 1) (by omega)
          have k3 := stp k
          (conv => arg 1; whnf)
          refine again (k + 1) [0] ?_ ?_ (by decide) ?_ ?_ ?_
          · show ((k + 1 : Nat) : Int) ≤ s.nu
            omega
          · show (s.nu - (k + 1 : Nat)).toNat < (s.nu - k).toNat
            omega
          · repeat' (first | exact True.intro | exact Fit.dead _ | exact Fit.v _ | exact .i fun _ _ => rfl | exact Fit.ip | exact .p rfl | exact .q rfl | exact .s rfl | exact .y rfl | refine Fit.al ?_ | refine Fit.fl ?_ ?_ | refine And.intro ?_ ?_)
            · exact Fit.v' (congrArg (Value.int .i64) (show s.ride (s.fl - 1) + s.door + ((k + 1 : Nat) : Int) * (s.door + clampH h0) = IntKind.i64.wrap (s.ride (s.fl - 1) + s.door + (k : Int) * (s.door + clampH h0) + IntKind.i64.wrap (IntKind.i64.wrap (IntKind.i64.wrap (IntKind.i64.wrap (s.op + s.wa) + s.cl) + 4) + clampH h0)) by rw [w4, i64w (s.door + clampH h0) (by omega) (by omega), i64w _ (by omega) (by omega), k3]; omega))
            · exact Fit.v' (congrArg (Value.int .i64) (show ((k + 1 : Nat) : Int) = IntKind.i64.wrap ((k : Int) + 1) by rw [i64w _ (by omega) (by omega)]; omega))
          · exact ⟨⟨_, rfl, .lit (by repeat' (first | exact True.intro | exact Fit.dead _ | exact Fit.v _ | exact .i fun _ _ => rfl | exact Fit.ip | exact .p rfl | exact .q rfl | exact .s rfl | exact .y rfl | refine Fit.al ?_ | refine Fit.fl ?_ ?_ | refine And.intro ?_ ?_))⟩, trivial⟩
          · rfl
        · have hy := of_decide_eq_false hy
          have hk2 : (k : Int) = s.nu := by omega
          (conv => arg 1; whnf)
          refine leave ?_
          show tr _
          (conv => arg 1; whnf)
          refine finI ?_
          show s.service h0 = s.ride (s.fl - 1) + s.door + (k : Int) * (s.door + clampH h0)
          rw [hk2]; rfl
    · refine loopIn (fun k : Nat => (k : Int) ≤ s.nu) (fun k => frm 54 [(1, i64 (clampH h0)), (2, .p 0 0), (5, i64 (s.ride (s.fl - 1) + s.door + k * (s.door + clampH h0))), (6, i64 k)]) (fun _ => [siteB s]) (fun k => (s.nu - k).toNat) 0 [0] (by show (0 : Int) ≤ s.nu; omega) (by decide) ?_ ?_ rfl fun k hk => ?_
      · repeat' (first | exact True.intro | exact Fit.dead _ | exact Fit.v _ | exact .i fun _ _ => rfl | exact Fit.ip | exact .p rfl | exact .q rfl | exact .s rfl | exact .y rfl | refine Fit.al ?_ | refine Fit.fl ?_ ?_ | refine And.intro ?_ ?_)
        · exact Fit.v' (congrArg (Value.int .i64) (show clampH h0 = h0 by unfold clampH mm; simp only; (repeat' split) <;> omega))
        · exact Fit.v' (congrArg (Value.int .i64) (show s.ride (s.fl - 1) + s.door + ((0 : Nat) : Int) * (s.door + clampH h0) = IntKind.i64.wrap (IntKind.i64.wrap (IntKind.i64.wrap (s.st + IntKind.i64.wrap (s.sp * IntKind.i64.wrap (s.fl - 1))) + s.so) + IntKind.i64.wrap (IntKind.i64.wrap (IntKind.i64.wrap (s.op + s.wa) + s.cl) + 4)) by rw [w1, w2, w3, w4, i64w _ (by omega) (by omega)]; omega))
      · exact ⟨⟨_, rfl, .lit (by repeat' (first | exact True.intro | exact Fit.dead _ | exact Fit.v _ | exact .i fun _ _ => rfl | exact Fit.ip | exact .p rfl | exact .q rfl | exact .s rfl | exact .y rfl | refine Fit.al ?_ | refine Fit.fl ?_ ?_ | refine And.intro ?_ ?_))⟩, trivial⟩
      · have k1 := key k hk
        (conv => arg 1; whnf)
        refine br (fun hy => ?_) (fun hy => ?_)
        · have hy := of_decide_eq_true hy
          have k2 := key (k + 1) (by omega)
          have k3 := stp k
          (conv => arg 1; whnf)
          refine again (k + 1) [0] ?_ ?_ (by decide) ?_ ?_ ?_
          · show ((k + 1 : Nat) : Int) ≤ s.nu
            omega
          · show (s.nu - (k + 1 : Nat)).toNat < (s.nu - k).toNat
            omega
          · repeat' (first | exact True.intro | exact Fit.dead _ | exact Fit.v _ | exact .i fun _ _ => rfl | exact Fit.ip | exact .p rfl | exact .q rfl | exact .s rfl | exact .y rfl | refine Fit.al ?_ | refine Fit.fl ?_ ?_ | refine And.intro ?_ ?_)
            · exact Fit.v' (congrArg (Value.int .i64) (show s.ride (s.fl - 1) + s.door + ((k + 1 : Nat) : Int) * (s.door + clampH h0) = IntKind.i64.wrap (s.ride (s.fl - 1) + s.door + (k : Int) * (s.door + clampH h0) + IntKind.i64.wrap (IntKind.i64.wrap (IntKind.i64.wrap (IntKind.i64.wrap (s.op + s.wa) + s.cl) + 4) + clampH h0)) by rw [w4, i64w (s.door + clampH h0) (by omega) (by omega), i64w _ (by omega) (by omega), k3]; omega))
            · exact Fit.v' (congrArg (Value.int .i64) (show ((k + 1 : Nat) : Int) = IntKind.i64.wrap ((k : Int) + 1) by rw [i64w _ (by omega) (by omega)]; omega))
          · exact ⟨⟨_, rfl, .lit (by repeat' (first | exact True.intro | exact Fit.dead _ | exact Fit.v _ | exact .i fun _ _ => rfl | exact Fit.ip | exact .p rfl | exact .q rfl | exact .s rfl | exact .y rfl | refine Fit.al ?_ | refine Fit.fl ?_ ?_ | refine And.intro ?_ ?_))⟩, trivial⟩
          · rfl
        · have hy := of_decide_eq_false hy
          have hk2 : (k : Int) = s.nu := by omega
          (conv => arg 1; whnf)
          refine leave ?_
          show tr _
          (conv => arg 1; whnf)
          refine finI ?_
          show s.service h0 = s.ride (s.fl - 1) + s.door + (k : Int) * (s.door + clampH h0)
          rw [hk2]; rfl
def XRT : Cx := XR0.add 19 .pure (pureCtr serviceG)
theorem XRT_ok : CxOk Try.prog XRT := XR0_ok.pure rservice_ok
theorem rbound_ok : CtrOk Try.prog 20 (pureCtr boundG) :=
  pureCtr_ok XRT_ok Try.func20 (by decide) rfl fun args u hh => by
    obtain ⟨s, h, rfl, hv⟩ := fn2_some hh
    obtain ⟨hr, rfl⟩ := giv_some hv
    clear hh hv
    refine ⟨rfl, rfl, ?_⟩
    have hb := Site.right_bd hr
    have h2 := Site.ride_bd hr (f := s.fl - 1) (by omega) (by omega)
    have h3 := Site.service_bd hr h
    unfold runF
    (conv => arg 1; whnf); (repeat' (first | (refine brt (by assumption) ?_; (conv => arg 1; whnf)) | (refine brf (by assumption) ?_; (conv => arg 1; whnf)) | fail))
    refine finI ?_
    show s.ag + 130 * s.service h + s.pe = IntKind.i64.wrap (IntKind.i64.wrap (s.ag + IntKind.i64.wrap (130 * s.service h)) + s.pe)
    rw [i64w (130 * _) (by omega) (by omega), i64w (s.ag + _) (by omega) (by omega), i64w _ (by omega) (by omega)]
def XTT : Cx := (((XT.add 17 (.foot footL) (localCtr tableG)).add 18 .pure (pureCtr travelG)).add 19 .pure (pureCtr serviceG)).add 20 .pure (pureCtr boundG)
theorem XTT_ok : CxOk Try.prog XTT := (((XT_ok.loc table_ok).pure rtravel_ok).pure rservice_ok).pure rbound_ok
end Go.Proofs.Ytaneamfnjhiigaa.E
