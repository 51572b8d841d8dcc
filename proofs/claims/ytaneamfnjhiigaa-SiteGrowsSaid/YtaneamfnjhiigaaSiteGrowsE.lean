/- The law of sites that grow, by the engine. -/
import Derived.Test.YtaneamfnjhiigaaSiteTableE
import Derived.Test.YtaneamfnjhiigaaERow
namespace Go.Proofs.Ytaneamfnjhiigaa.E
open Go NumMath
set_option linter.unusedSimpArgs false
set_option linter.unusedVariables false
set_option maxRecDepth 100000
set_option maxHeartbeats 8000000

theorem site_arg {u : AV} (h : isArg tt 23 u) : ∃ s : Site, u = s.av := by
  obtain ⟨_, ⟨_, _, rfl, ⟨a1, rfl, w1⟩, _, _, rfl, ⟨a2, rfl, w2⟩, _, _, rfl, ⟨a3, rfl, w3⟩, _, _, rfl, ⟨a4, rfl, w4⟩, _, _, rfl, ⟨a5, rfl, w5⟩, _, _, rfl, ⟨a6, rfl, w6⟩, _, _, rfl, ⟨a7, rfl, w7⟩, _, _, rfl, ⟨a8, rfl, w8⟩, _, _, rfl, ⟨a9, rfl, w9⟩, _, _, rfl, ⟨a10, rfl, w10⟩, _, _, rfl, ⟨a11, rfl, w11⟩, _, _, rfl, ⟨a12, rfl, w12⟩, _, _, rfl, ⟨a13, rfl, w13⟩, rfl⟩, rfl⟩ := h
  exact ⟨⟨a1, a2, a3, a4, a5, a6, a7, a8, a9, a10, a11, a12, a13⟩, rfl⟩
theorem int_arg {u : AV} (h : isArg tt 3 u) : ∃ n : Int, u = i64 n ∧ -9223372036854775808 ≤ n ∧ n ≤ 9223372036854775807 := by
  obtain ⟨n, e, w⟩ := h
  exact ⟨n, (List.cons.inj e).1, wf_i64 w⟩
theorem travel_sym {s : Site} (f t : Int) : s.travel f t = s.travel t f := by
  unfold Site.travel
  by_cases h : f = t ∨ f < 0 ∨ s.fl ≤ f ∨ t < 0 ∨ s.fl ≤ t
  · rw [if_pos h, if_pos (by omega)]
  · rw [if_neg h, if_neg (show ¬ (t = f ∨ t < 0 ∨ s.fl ≤ t ∨ f < 0 ∨ s.fl ≤ f) by omega)]
    congr 1
    split <;> split <;> omega
/-- A site with one number more by one. -/
def bumpS (s : Site) : Nat → Site
  | 0 => ⟨s.fl, s.ca, IntKind.i64.wrap (s.st + 1), s.sp, s.so, s.op, s.wa, s.cl, s.nu, s.ag, s.si, s.bu, s.pe⟩
  | 1 => ⟨s.fl, s.ca, s.st, IntKind.i64.wrap (s.sp + 1), s.so, s.op, s.wa, s.cl, s.nu, s.ag, s.si, s.bu, s.pe⟩
  | 2 => ⟨s.fl, s.ca, s.st, s.sp, IntKind.i64.wrap (s.so + 1), s.op, s.wa, s.cl, s.nu, s.ag, s.si, s.bu, s.pe⟩
  | 3 => ⟨s.fl, s.ca, s.st, s.sp, s.so, IntKind.i64.wrap (s.op + 1), s.wa, s.cl, s.nu, s.ag, s.si, s.bu, s.pe⟩
  | 4 => ⟨s.fl, s.ca, s.st, s.sp, s.so, s.op, IntKind.i64.wrap (s.wa + 1), s.cl, s.nu, s.ag, s.si, s.bu, s.pe⟩
  | 5 => ⟨s.fl, s.ca, s.st, s.sp, s.so, s.op, s.wa, IntKind.i64.wrap (s.cl + 1), s.nu, s.ag, s.si, s.bu, s.pe⟩
  | 6 => ⟨s.fl, s.ca, s.st, s.sp, s.so, s.op, s.wa, s.cl, IntKind.i64.wrap (s.nu + 1), s.ag, s.si, s.bu, s.pe⟩
  | _ => ⟨s.fl, s.ca, s.st, s.sp, s.so, s.op, s.wa, s.cl, s.nu, IntKind.i64.wrap (s.ag + 1), s.si, s.bu, s.pe⟩
theorem bump_grow {s : Site} (hr : s.right = true) (w : Nat) : (bumpS s w).fl = s.fl ∧ (bumpS s w).pe = s.pe ∧ s.st ≤ (bumpS s w).st ∧ s.sp ≤ (bumpS s w).sp ∧ s.so ≤ (bumpS s w).so ∧ s.op ≤ (bumpS s w).op ∧ s.wa ≤ (bumpS s w).wa ∧ s.cl ≤ (bumpS s w).cl ∧ s.nu ≤ (bumpS s w).nu ∧ s.ag ≤ (bumpS s w).ag ∧
    s.st + s.sp + s.so + s.op + s.wa + s.cl + s.nu + s.ag < (bumpS s w).st + (bumpS s w).sp + (bumpS s w).so + (bumpS s w).op + (bumpS s w).wa + (bumpS s w).cl + (bumpS s w).nu + (bumpS s w).ag := by
  have hb := Site.right_bd hr
  have wq : ∀ x : Int, 0 ≤ x → x ≤ 1000000 → IntKind.i64.wrap (x + 1) = x + 1 := fun x h1 h2 => i64w _ (by omega) (by omega)
  have w1 := wq s.st (by omega) (by omega)
  have w2 := wq s.sp (by omega) (by omega)
  have w3 := wq s.so (by omega) (by omega)
  have w4 := wq s.op (by omega) (by omega)
  have w5 := wq s.wa (by omega) (by omega)
  have w6 := wq s.cl (by omega) (by omega)
  have w7 := wq s.nu (by omega) (by omega)
  have w8 := wq s.ag (by omega) (by omega)
  rcases w with _ | _ | _ | _ | _ | _ | _ | _ <;> refine ⟨?_, ?_, ?_, ?_, ?_, ?_, ?_, ?_, ?_, ?_, ?_⟩ <;> (try simp only [bumpS, w1, w2, w3, w4, w5, w6, w7, w8]) <;> omega
theorem grow_travel {s t : Site} (hs : s.right = true) (ht : t.right = true) (h1 : t.fl = s.fl) (h2 : s.st ≤ t.st) (h3 : s.sp ≤ t.sp) (h4 : s.so ≤ t.so) (i k : Int) : s.travel i k ≤ t.travel i k := by
  have hb := Site.right_bd hs
  unfold Site.travel
  rw [h1]
  split
  · exact Int.le_refl _
  · have := Int.mul_le_mul_of_nonneg_right h3 (show 0 ≤ (if i < k then k - i else i - k) by split <;> omega)
    unfold Site.ride
    omega
theorem grow_service {s : Site} (hs : s.right = true) (w : Nat) (ht : (bumpS s w).right = true) (h : Int) : s.service h ≤ (bumpS s w).service h ∧ s.bound h < (bumpS s w).bound h := by
  obtain ⟨g1, g2, g3, g4, g5, g6, g7, g8, g9, g10, g11⟩ := bump_grow hs w
  generalize bumpS s w = t at *
  have hb := Site.right_bd hs
  have hc := clampH_bd h
  have m1 : s.sp * (s.fl - 1) + (t.sp - s.sp) ≤ t.sp * (t.fl - 1) := by
    rw [g1]
    have h1 : t.sp * (s.fl - 1) = s.sp * (s.fl - 1) + (t.sp - s.sp) * (s.fl - 1) := by rw [← Int.add_mul]; congr 1; omega
    have h2 : (t.sp - s.sp) * 1 ≤ (t.sp - s.sp) * (s.fl - 1) := Int.mul_le_mul_of_nonneg_left (by omega) (by omega)
    omega
  have hd : s.door = s.op + s.wa + s.cl + 4 := rfl
  have hd' : t.door = t.op + t.wa + t.cl + 4 := rfl
  have m2 : s.nu * (s.door + clampH h) + (t.nu - s.nu) ≤ t.nu * (t.door + clampH h) := by
    have h1 : t.nu * (t.door + clampH h) = s.nu * (t.door + clampH h) + (t.nu - s.nu) * (t.door + clampH h) := by rw [← Int.add_mul]; congr 1; omega
    have h2 : (t.nu - s.nu) * 1 ≤ (t.nu - s.nu) * (t.door + clampH h) := Int.mul_le_mul_of_nonneg_left (by omega) (by omega)
    have h3 : s.nu * (s.door + clampH h) ≤ s.nu * (t.door + clampH h) := Int.mul_le_mul_of_nonneg_left (by omega) (by omega)
    omega
  have e1 : s.service h = s.st + s.sp * (s.fl - 1) + s.so + s.door + s.nu * (s.door + clampH h) := rfl
  have e2 : t.service h = t.st + t.sp * (t.fl - 1) + t.so + t.door + t.nu * (t.door + clampH h) := rfl
  have e3 : s.bound h = s.ag + 130 * s.service h + s.pe := rfl
  have e4 : t.bound h = t.ag + 130 * t.service h + t.pe := rfl
  omega
def XTG : Cx := XTT.join 100000
theorem XTG_ok : CxOk Try.prog XTG := XTT_ok.join 100000 rfl
theorem SiteGrows (us : List AV) (h : areArgs tt [23, 3, 3] us) : runF XTG Try.f5 us [] (boo true) [] := by
  obtain ⟨_, _, rfl, hs, _, _, rfl, ha, _, _, rfl, hh, rfl⟩ := h
  obtain ⟨s, rfl⟩ := site_arg hs
  obtain ⟨a, rfl, ha1, ha2⟩ := int_arg ha
  obtain ⟨hold, rfl, hh1, hh2⟩ := int_arg hh
  clear hs ha hh
  unfold runF
  (conv => arg 1; whnf); (repeat' (first | (refine brt (by assumption) ?_; (conv => arg 1; whnf)) | (refine brf (by assumption) ?_; (conv => arg 1; whnf)) | fail))
  refine br (fun h => ?_) (fun h => ?_)
  · (conv => arg 1; whnf); (repeat' (first | (refine brt (by assumption) ?_; (conv => arg 1; whnf)) | (refine brf (by assumption) ?_; (conv => arg 1; whnf)) | fail))
    exact finB rfl
  · have hr : s.right = true := by simpa using h
    have hb := Site.right_bd hr
    have hr' : Site.right ⟨s.fl, s.ca, s.st, s.sp, s.so, s.op, s.wa, s.cl, s.nu, s.ag, s.si, s.bu, s.pe⟩ = true := hr
    have hn : ((s.fl.toNat : Nat) : Int) = s.fl := by omega
    (conv => arg 1; whnf)
    refine joinIn (fun _ : Nat => True) (fun _ => frm 149 [(2, i64 hold), (3, .p 0 0), (7, .p 1 0)]) (fun w => [siteB s, siteB (bumpS s w)]) ?_ (fun w _ => ?_)
    · (conv => arg 1; whnf)
      refine br (fun hp => ?_) (fun hp => ?_)
      · (conv => arg 1; whnf); (repeat' (first | (refine brt (by assumption) ?_; (conv => arg 1; whnf)) | (refine brf (by assumption) ?_; (conv => arg 1; whnf)) | fail))
        refine joinTo 0 [0, 1] trivial (by decide) ?_ ⟨⟨_, rfl, .lit (by repeat' (first | exact True.intro | exact Fit.dead _ | exact Fit.v _ | exact .i fun _ _ => rfl | exact Fit.ip | exact .p rfl | exact .q rfl | exact .s rfl | exact .y rfl | refine Fit.al ?_ | refine Fit.fl ?_ ?_ | refine And.intro ?_ ?_))⟩, ⟨_, rfl, .lit (by repeat' (first | exact True.intro | exact Fit.dead _ | exact Fit.v _ | exact .i fun _ _ => rfl | exact Fit.ip | exact .p rfl | exact .q rfl | exact .s rfl | exact .y rfl | refine Fit.al ?_ | refine Fit.fl ?_ ?_ | refine And.intro ?_ ?_))⟩, trivial⟩ rfl
        repeat' (first | exact True.intro | exact Fit.dead _ | exact Fit.v _ | exact .i fun _ _ => rfl | exact Fit.ip | exact .p rfl | exact .q rfl | exact .s rfl | exact .y rfl | refine Fit.al ?_ | refine Fit.fl ?_ ?_ | refine And.intro ?_ ?_)
      · (conv => arg 1; whnf)
        refine br (fun hp => ?_) (fun hp => ?_)
        · (conv => arg 1; whnf); (repeat' (first | (refine brt (by assumption) ?_; (conv => arg 1; whnf)) | (refine brf (by assumption) ?_; (conv => arg 1; whnf)) | fail))
          refine joinTo 1 [0, 1] trivial (by decide) ?_ ⟨⟨_, rfl, .lit (by repeat' (first | exact True.intro | exact Fit.dead _ | exact Fit.v _ | exact .i fun _ _ => rfl | exact Fit.ip | exact .p rfl | exact .q rfl | exact .s rfl | exact .y rfl | refine Fit.al ?_ | refine Fit.fl ?_ ?_ | refine And.intro ?_ ?_))⟩, ⟨_, rfl, .lit (by repeat' (first | exact True.intro | exact Fit.dead _ | exact Fit.v _ | exact .i fun _ _ => rfl | exact Fit.ip | exact .p rfl | exact .q rfl | exact .s rfl | exact .y rfl | refine Fit.al ?_ | refine Fit.fl ?_ ?_ | refine And.intro ?_ ?_))⟩, trivial⟩ rfl
          repeat' (first | exact True.intro | exact Fit.dead _ | exact Fit.v _ | exact .i fun _ _ => rfl | exact Fit.ip | exact .p rfl | exact .q rfl | exact .s rfl | exact .y rfl | refine Fit.al ?_ | refine Fit.fl ?_ ?_ | refine And.intro ?_ ?_)
        · (conv => arg 1; whnf)
          refine br (fun hp => ?_) (fun hp => ?_)
          · (conv => arg 1; whnf); (repeat' (first | (refine brt (by assumption) ?_; (conv => arg 1; whnf)) | (refine brf (by assumption) ?_; (conv => arg 1; whnf)) | fail))
            refine joinTo 2 [0, 1] trivial (by decide) ?_ ⟨⟨_, rfl, .lit (by repeat' (first | exact True.intro | exact Fit.dead _ | exact Fit.v _ | exact .i fun _ _ => rfl | exact Fit.ip | exact .p rfl | exact .q rfl | exact .s rfl | exact .y rfl | refine Fit.al ?_ | refine Fit.fl ?_ ?_ | refine And.intro ?_ ?_))⟩, ⟨_, rfl, .lit (by repeat' (first | exact True.intro | exact Fit.dead _ | exact Fit.v _ | exact .i fun _ _ => rfl | exact Fit.ip | exact .p rfl | exact .q rfl | exact .s rfl | exact .y rfl | refine Fit.al ?_ | refine Fit.fl ?_ ?_ | refine And.intro ?_ ?_))⟩, trivial⟩ rfl
            repeat' (first | exact True.intro | exact Fit.dead _ | exact Fit.v _ | exact .i fun _ _ => rfl | exact Fit.ip | exact .p rfl | exact .q rfl | exact .s rfl | exact .y rfl | refine Fit.al ?_ | refine Fit.fl ?_ ?_ | refine And.intro ?_ ?_)
          · (conv => arg 1; whnf)
            refine br (fun hp => ?_) (fun hp => ?_)
            · (conv => arg 1; whnf); (repeat' (first | (refine brt (by assumption) ?_; (conv => arg 1; whnf)) | (refine brf (by assumption) ?_; (conv => arg 1; whnf)) | fail))
              refine joinTo 3 [0, 1] trivial (by decide) ?_ ⟨⟨_, rfl, .lit (by repeat' (first | exact True.intro | exact Fit.dead _ | exact Fit.v _ | exact .i fun _ _ => rfl | exact Fit.ip | exact .p rfl | exact .q rfl | exact .s rfl | exact .y rfl | refine Fit.al ?_ | refine Fit.fl ?_ ?_ | refine And.intro ?_ ?_))⟩, ⟨_, rfl, .lit (by repeat' (first | exact True.intro | exact Fit.dead _ | exact Fit.v _ | exact .i fun _ _ => rfl | exact Fit.ip | exact .p rfl | exact .q rfl | exact .s rfl | exact .y rfl | refine Fit.al ?_ | refine Fit.fl ?_ ?_ | refine And.intro ?_ ?_))⟩, trivial⟩ rfl
              repeat' (first | exact True.intro | exact Fit.dead _ | exact Fit.v _ | exact .i fun _ _ => rfl | exact Fit.ip | exact .p rfl | exact .q rfl | exact .s rfl | exact .y rfl | refine Fit.al ?_ | refine Fit.fl ?_ ?_ | refine And.intro ?_ ?_)
            · (conv => arg 1; whnf)
              refine br (fun hp => ?_) (fun hp => ?_)
              · (conv => arg 1; whnf); (repeat' (first | (refine brt (by assumption) ?_; (conv => arg 1; whnf)) | (refine brf (by assumption) ?_; (conv => arg 1; whnf)) | fail))
                refine joinTo 4 [0, 1] trivial (by decide) ?_ ⟨⟨_, rfl, .lit (by repeat' (first | exact True.intro | exact Fit.dead _ | exact Fit.v _ | exact .i fun _ _ => rfl | exact Fit.ip | exact .p rfl | exact .q rfl | exact .s rfl | exact .y rfl | refine Fit.al ?_ | refine Fit.fl ?_ ?_ | refine And.intro ?_ ?_))⟩, ⟨_, rfl, .lit (by repeat' (first | exact True.intro | exact Fit.dead _ | exact Fit.v _ | exact .i fun _ _ => rfl | exact Fit.ip | exact .p rfl | exact .q rfl | exact .s rfl | exact .y rfl | refine Fit.al ?_ | refine Fit.fl ?_ ?_ | refine And.intro ?_ ?_))⟩, trivial⟩ rfl
                repeat' (first | exact True.intro | exact Fit.dead _ | exact Fit.v _ | exact .i fun _ _ => rfl | exact Fit.ip | exact .p rfl | exact .q rfl | exact .s rfl | exact .y rfl | refine Fit.al ?_ | refine Fit.fl ?_ ?_ | refine And.intro ?_ ?_)
              · (conv => arg 1; whnf)
                refine br (fun hp => ?_) (fun hp => ?_)
                · (conv => arg 1; whnf); (repeat' (first | (refine brt (by assumption) ?_; (conv => arg 1; whnf)) | (refine brf (by assumption) ?_; (conv => arg 1; whnf)) | fail))
                  refine joinTo 5 [0, 1] trivial (by decide) ?_ ⟨⟨_, rfl, .lit (by repeat' (first | exact True.intro | exact Fit.dead _ | exact Fit.v _ | exact .i fun _ _ => rfl | exact Fit.ip | exact .p rfl | exact .q rfl | exact .s rfl | exact .y rfl | refine Fit.al ?_ | refine Fit.fl ?_ ?_ | refine And.intro ?_ ?_))⟩, ⟨_, rfl, .lit (by repeat' (first | exact True.intro | exact Fit.dead _ | exact Fit.v _ | exact .i fun _ _ => rfl | exact Fit.ip | exact .p rfl | exact .q rfl | exact .s rfl | exact .y rfl | refine Fit.al ?_ | refine Fit.fl ?_ ?_ | refine And.intro ?_ ?_))⟩, trivial⟩ rfl
                  repeat' (first | exact True.intro | exact Fit.dead _ | exact Fit.v _ | exact .i fun _ _ => rfl | exact Fit.ip | exact .p rfl | exact .q rfl | exact .s rfl | exact .y rfl | refine Fit.al ?_ | refine Fit.fl ?_ ?_ | refine And.intro ?_ ?_)
                · (conv => arg 1; whnf)
                  refine br (fun hp => ?_) (fun hp => ?_)
                  · (conv => arg 1; whnf); (repeat' (first | (refine brt (by assumption) ?_; (conv => arg 1; whnf)) | (refine brf (by assumption) ?_; (conv => arg 1; whnf)) | fail))
                    refine joinTo 6 [0, 1] trivial (by decide) ?_ ⟨⟨_, rfl, .lit (by repeat' (first | exact True.intro | exact Fit.dead _ | exact Fit.v _ | exact .i fun _ _ => rfl | exact Fit.ip | exact .p rfl | exact .q rfl | exact .s rfl | exact .y rfl | refine Fit.al ?_ | refine Fit.fl ?_ ?_ | refine And.intro ?_ ?_))⟩, ⟨_, rfl, .lit (by repeat' (first | exact True.intro | exact Fit.dead _ | exact Fit.v _ | exact .i fun _ _ => rfl | exact Fit.ip | exact .p rfl | exact .q rfl | exact .s rfl | exact .y rfl | refine Fit.al ?_ | refine Fit.fl ?_ ?_ | refine And.intro ?_ ?_))⟩, trivial⟩ rfl
                    repeat' (first | exact True.intro | exact Fit.dead _ | exact Fit.v _ | exact .i fun _ _ => rfl | exact Fit.ip | exact .p rfl | exact .q rfl | exact .s rfl | exact .y rfl | refine Fit.al ?_ | refine Fit.fl ?_ ?_ | refine And.intro ?_ ?_)
                  · (conv => arg 1; whnf)
                    (conv => arg 1; whnf); (repeat' (first | (refine brt (by assumption) ?_; (conv => arg 1; whnf)) | (refine brf (by assumption) ?_; (conv => arg 1; whnf)) | fail))
                    refine joinTo 7 [0, 1] trivial (by decide) ?_ ⟨⟨_, rfl, .lit (by repeat' (first | exact True.intro | exact Fit.dead _ | exact Fit.v _ | exact .i fun _ _ => rfl | exact Fit.ip | exact .p rfl | exact .q rfl | exact .s rfl | exact .y rfl | refine Fit.al ?_ | refine Fit.fl ?_ ?_ | refine And.intro ?_ ?_))⟩, ⟨_, rfl, .lit (by repeat' (first | exact True.intro | exact Fit.dead _ | exact Fit.v _ | exact .i fun _ _ => rfl | exact Fit.ip | exact .p rfl | exact .q rfl | exact .s rfl | exact .y rfl | refine Fit.al ?_ | refine Fit.fl ?_ ?_ | refine And.intro ?_ ?_))⟩, trivial⟩ rfl
                    repeat' (first | exact True.intro | exact Fit.dead _ | exact Fit.v _ | exact .i fun _ _ => rfl | exact Fit.ip | exact .p rfl | exact .q rfl | exact .s rfl | exact .y rfl | refine Fit.al ?_ | refine Fit.fl ?_ ?_ | refine And.intro ?_ ?_)
    · (conv => arg 1; whnf); (repeat' (first | (refine brt (by assumption) ?_; (conv => arg 1; whnf)) | (refine brf (by assumption) ?_; (conv => arg 1; whnf)) | fail))
      refine br (fun h => ?_) (fun h => ?_)
      · (conv => arg 1; whnf); (repeat' (first | (refine brt (by assumption) ?_; (conv => arg 1; whnf)) | (refine brf (by assumption) ?_; (conv => arg 1; whnf)) | fail))
        exact finB rfl
      · have hT : (bumpS s w).right = true := by
          have h' : (!(bumpS s w).right) = false := h
          simpa using h'
        obtain ⟨g1, g2, g3, g4, g5, g6, g7, g8, g9, g10, g11⟩ := bump_grow hr w
        obtain ⟨q1, q2⟩ := grow_service hr w hT hold
        have d1 : decide ((bumpS s w).service hold < s.service hold) = false := decide_eq_false (by omega)
        have d2 : decide ((bumpS s w).bound hold ≤ s.bound hold) = false := decide_eq_false (by omega)
        (conv => arg 1; whnf); (repeat' (first | (refine brt (by assumption) ?_; (conv => arg 1; whnf)) | (refine brf (by assumption) ?_; (conv => arg 1; whnf)) | fail))
        refine loopIn (fun i : Nat => i ≤ s.fl.toNat) (fun i => frm 149 [(3, .p 0 0), (7, .p 1 0), (8, .s 2 1 0 s.fl.toNat), (87, i64 s.fl.toNat), (88, i64 i)]) (fun _ => [siteB s, siteB (bumpS s w), .tab 1 s.fl.toNat (ttab s)]) (fun i => s.fl.toNat - i) 0 [0, 1, 2] (Nat.zero_le _) (by decide) ?_ ?_ rfl fun i hi => ?_
        · repeat' (first | exact True.intro | exact Fit.dead _ | exact Fit.v _ | exact .i fun _ _ => rfl | exact Fit.ip | exact .p rfl | exact .q rfl | exact .s rfl | exact .y rfl | refine Fit.al ?_ | refine Fit.fl ?_ ?_ | refine And.intro ?_ ?_)
        · exact ⟨⟨_, rfl, .lit (by repeat' (first | exact True.intro | exact Fit.dead _ | exact Fit.v _ | exact .i fun _ _ => rfl | exact Fit.ip | exact .p rfl | exact .q rfl | exact .s rfl | exact .y rfl | refine Fit.al ?_ | refine Fit.fl ?_ ?_ | refine And.intro ?_ ?_))⟩, ⟨_, rfl, .lit (by repeat' (first | exact True.intro | exact Fit.dead _ | exact Fit.v _ | exact .i fun _ _ => rfl | exact Fit.ip | exact .p rfl | exact .q rfl | exact .s rfl | exact .y rfl | refine Fit.al ?_ | refine Fit.fl ?_ ?_ | refine And.intro ?_ ?_))⟩, ⟨_, rfl, .tab fun _ _ => rfl⟩, trivial⟩
        · (conv => arg 1; whnf)
          refine br (fun hk => ?_) (fun hk => ?_)
          · have hk := of_decide_eq_true hk
            have e2 : (decide (0 ≤ (i : Int)) && decide ((i : Int) < ((s.fl.toNat : Nat) : Int))) = true := by simp only [Bool.and_eq_true, decide_eq_true_eq]; omega
            have e3 : decide (0 + (i : Int).toNat < s.fl.toNat) = true := decide_eq_true (by omega)
            (conv => arg 1; whnf); (repeat' (first | (refine brt (by assumption) ?_; (conv => arg 1; whnf)) | (refine brf (by assumption) ?_; (conv => arg 1; whnf)) | fail))
            refine loopIn (fun k : Nat => k ≤ s.fl.toNat) (fun k => frm 149 [(3, .p 0 0), (7, .p 1 0), (8, .s 2 1 0 s.fl.toNat), (9, i64 i), (87, i64 s.fl.toNat), (88, i64 i), (95, i64 s.fl.toNat), (96, i64 k)]) (fun _ => [siteB s, siteB (bumpS s w), .tab 1 s.fl.toNat (ttab s)]) (fun k => s.fl.toNat - k) 0 [0, 1, 2] (Nat.zero_le _) (by decide) ?_ ?_ rfl fun k hk2 => ?_
            · repeat' (first | exact True.intro | exact Fit.dead _ | exact Fit.v _ | exact .i fun _ _ => rfl | exact Fit.ip | exact .p rfl | exact .q rfl | exact .s rfl | exact .y rfl | refine Fit.al ?_ | refine Fit.fl ?_ ?_ | refine And.intro ?_ ?_)
            · exact ⟨⟨_, rfl, .lit (by repeat' (first | exact True.intro | exact Fit.dead _ | exact Fit.v _ | exact .i fun _ _ => rfl | exact Fit.ip | exact .p rfl | exact .q rfl | exact .s rfl | exact .y rfl | refine Fit.al ?_ | refine Fit.fl ?_ ?_ | refine And.intro ?_ ?_))⟩, ⟨_, rfl, .lit (by repeat' (first | exact True.intro | exact Fit.dead _ | exact Fit.v _ | exact .i fun _ _ => rfl | exact Fit.ip | exact .p rfl | exact .q rfl | exact .s rfl | exact .y rfl | refine Fit.al ?_ | refine Fit.fl ?_ ?_ | refine And.intro ?_ ?_))⟩, ⟨_, rfl, .tab fun _ _ => rfl⟩, trivial⟩
            · (conv => arg 1; whnf)
              refine br (fun hk3 => ?_) (fun hk3 => ?_)
              · have hk3 := of_decide_eq_true hk3
                have e4 : (decide (0 ≤ (k : Int)) && decide ((k : Int) < ((s.fl.toNat : Nat) : Int))) = true := by simp only [Bool.and_eq_true, decide_eq_true_eq]; omega
                have e6 : decide (0 + (k : Int).toNat < s.fl.toNat) = true := decide_eq_true (by omega)
                have n1 : ((0 + (i : Int).toNat : Nat) : Int) = i := by omega
                have n2 : (((k : Int).toNat : Nat) : Int) = k := by omega
                have n3 : ((0 + (k : Int).toNat : Nat) : Int) = k := by omega
                have n4 : (((i : Int).toNat : Nat) : Int) = i := by omega
                have e7 : (!decide (s.travel ((0 + (i : Int).toNat : Nat) : Int) (((k : Int).toNat : Nat) : Int) = s.travel ((0 + (k : Int).toNat : Nat) : Int) (((i : Int).toNat : Nat) : Int))) = false := by
                  rw [n1, n2, n3, n4, travel_sym (i : Int) k]; simp
                have e8 : (!decide (s.travel ((0 + (i : Int).toNat : Nat) : Int) (((k : Int).toNat : Nat) : Int) = s.travel i k)) = false := by
                  rw [n1, n2]; simp
                have e9 : decide ((bumpS s w).travel i k < s.travel ((0 + (i : Int).toNat : Nat) : Int) (((k : Int).toNat : Nat) : Int)) = false := by
                  rw [n1, n2]
                  have := grow_travel hr hT g1 g3 g4 g5 (i : Int) k
                  exact decide_eq_false (by omega)
                (conv => arg 1; whnf); (repeat' (first | (refine brt (by assumption) ?_; (conv => arg 1; whnf)) | (refine brf (by assumption) ?_; (conv => arg 1; whnf)) | fail))
                refine again (k + 1) [0, 1, 2] ?_ ?_ (by decide) ?_ ?_ ?_
                · show k + 1 ≤ s.fl.toNat
                  omega
                · show s.fl.toNat - (k + 1) < s.fl.toNat - k
                  omega
                · repeat' (first | exact True.intro | exact Fit.dead _ | exact Fit.v _ | exact .i fun _ _ => rfl | exact Fit.ip | exact .p rfl | exact .q rfl | exact .s rfl | exact .y rfl | refine Fit.al ?_ | refine Fit.fl ?_ ?_ | refine And.intro ?_ ?_)
                  exact Fit.v' (congrArg (Value.int .i64) (show ((k + 1 : Nat) : Int) = IntKind.i64.wrap ((k : Int) + 1) by rw [i64w _ (by omega) (by omega)]; omega))
                · exact ⟨⟨_, rfl, .lit (by repeat' (first | exact True.intro | exact Fit.dead _ | exact Fit.v _ | exact .i fun _ _ => rfl | exact Fit.ip | exact .p rfl | exact .q rfl | exact .s rfl | exact .y rfl | refine Fit.al ?_ | refine Fit.fl ?_ ?_ | refine And.intro ?_ ?_))⟩, ⟨_, rfl, .lit (by repeat' (first | exact True.intro | exact Fit.dead _ | exact Fit.v _ | exact .i fun _ _ => rfl | exact Fit.ip | exact .p rfl | exact .q rfl | exact .s rfl | exact .y rfl | refine Fit.al ?_ | refine Fit.fl ?_ ?_ | refine And.intro ?_ ?_))⟩, ⟨_, rfl, .tab fun _ _ => rfl⟩, trivial⟩
                · rfl
              · (conv => arg 1; whnf)
                refine leave ?_
                show tr _
                (conv => arg 1; whnf); (repeat' (first | (refine brt (by assumption) ?_; (conv => arg 1; whnf)) | (refine brf (by assumption) ?_; (conv => arg 1; whnf)) | fail))
                refine again (i + 1) [0, 1, 2] ?_ ?_ (by decide) ?_ ?_ ?_
                · show i + 1 ≤ s.fl.toNat
                  omega
                · show s.fl.toNat - (i + 1) < s.fl.toNat - i
                  omega
                · repeat' (first | exact True.intro | exact Fit.dead _ | exact Fit.v _ | exact .i fun _ _ => rfl | exact Fit.ip | exact .p rfl | exact .q rfl | exact .s rfl | exact .y rfl | refine Fit.al ?_ | refine Fit.fl ?_ ?_ | refine And.intro ?_ ?_)
                  exact Fit.v' (congrArg (Value.int .i64) (show ((i + 1 : Nat) : Int) = IntKind.i64.wrap ((i : Int) + 1) by rw [i64w _ (by omega) (by omega)]; omega))
                · exact ⟨⟨_, rfl, .lit (by repeat' (first | exact True.intro | exact Fit.dead _ | exact Fit.v _ | exact .i fun _ _ => rfl | exact Fit.ip | exact .p rfl | exact .q rfl | exact .s rfl | exact .y rfl | refine Fit.al ?_ | refine Fit.fl ?_ ?_ | refine And.intro ?_ ?_))⟩, ⟨_, rfl, .lit (by repeat' (first | exact True.intro | exact Fit.dead _ | exact Fit.v _ | exact .i fun _ _ => rfl | exact Fit.ip | exact .p rfl | exact .q rfl | exact .s rfl | exact .y rfl | refine Fit.al ?_ | refine Fit.fl ?_ ?_ | refine And.intro ?_ ?_))⟩, ⟨_, rfl, .tab fun _ _ => rfl⟩, trivial⟩
                · rfl
          · (conv => arg 1; whnf)
            refine leave ?_
            show tr _
            (conv => arg 1; whnf); (repeat' (first | (refine brt (by assumption) ?_; (conv => arg 1; whnf)) | (refine brf (by assumption) ?_; (conv => arg 1; whnf)) | fail))
            refine finB ?_
            exact (decide_eq_true hn).symm
end Go.Proofs.Ytaneamfnjhiigaa.E
