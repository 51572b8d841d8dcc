/- The laws of doors, by the engine. -/
import Derived.Test.YtohgniddfpjjfaaDoorE
import Derived.Test.YtohgniddfpjjfaaERow
import Derived.Test.YtohgniddfpjjfaaBitsE
namespace Go.Proofs.Ytohgniddfpjjfaa.E
open Go
set_option linter.unusedSimpArgs false
set_option maxRecDepth 100000
set_option maxHeartbeats 4000000

def XDL0 : Cx := XD2.add 26 .pure (pureCtr stepG)
theorem XDL0_ok : CxOk Try.prog XDL0 := XD2_ok.pure step_ok
def truG : List AV → Option (Bool × AV) := fn0 (giv true (boo true))
theorem speaks04_ok : CtrOk Try.prog 24 (pureCtr truG) :=
  pureCtr_ok XDL0_ok Try.func24 (by decide) rfl fun args u hh => by
    obtain ⟨rfl, hv⟩ := fn0_some hh
    obtain ⟨_, rfl⟩ := giv_some hv
    clear hh hv
    refine ⟨rfl, rfl, ?_⟩
    unfold runF
    (conv => arg 1; whnf)
    exact finB rfl
def XDL : Cx := (((((XDL0.add 24 .pure (pureCtr truG)).add 27 .pure (pureCtr drightG)).add 25 .pure (pureCtr rightG)).add 28 .pure (pureCtr drightG)).add 29 .pure (pureCtr rstepG))
theorem XDL_ok : CxOk Try.prog XDL := (((((XDL0_ok.pure speaks04_ok).pure dright_ok).pure rright_ok).pure rdright_ok).pure rstep_ok)

theorem site_arg {u : AV} (h : isArg tt 32 u) : ∃ s : Site, u = s.av := by
  obtain ⟨_, ⟨_, _, rfl, ⟨a1, rfl, w1⟩, _, _, rfl, ⟨a2, rfl, w2⟩, _, _, rfl, ⟨a3, rfl, w3⟩, _, _, rfl, ⟨a4, rfl, w4⟩, _, _, rfl, ⟨a5, rfl, w5⟩, _, _, rfl, ⟨a6, rfl, w6⟩, _, _, rfl, ⟨a7, rfl, w7⟩, _, _, rfl, ⟨a8, rfl, w8⟩, _, _, rfl, ⟨a9, rfl, w9⟩, _, _, rfl, ⟨a10, rfl, w10⟩, _, _, rfl, ⟨a11, rfl, w11⟩, _, _, rfl, ⟨a12, rfl, w12⟩, _, _, rfl, ⟨a13, rfl, w13⟩, rfl⟩, rfl⟩ := h
  exact ⟨⟨a1, a2, a3, a4, a5, a6, a7, a8, a9, a10, a11, a12, a13⟩, rfl⟩
theorem int_arg {u : AV} (h : isArg tt 3 u) : ∃ n : Int, u = i64 n ∧ -9223372036854775808 ≤ n ∧ n ≤ 9223372036854775807 := by
  obtain ⟨n, e, w⟩ := h
  exact ⟨n, (List.cons.inj e).1, wf_i64 w⟩
theorem Site.right_bd {s : Site} (h : s.right = true) : 2 ≤ s.fl ∧ s.fl ≤ 64 ∧ 1 ≤ s.ca ∧ s.ca ≤ 8 ∧ 0 ≤ s.st ∧ s.st ≤ 1000 ∧ 1 ≤ s.sp ∧ s.sp ≤ 1000 ∧ 0 ≤ s.so ∧ s.so ≤ 1000 ∧ 1 ≤ s.op ∧ s.op ≤ 1000 ∧ 1 ≤ s.wa ∧ s.wa ≤ 1000 ∧ 1 ≤ s.cl ∧ s.cl ≤ 1000 ∧ 0 ≤ s.nu ∧ s.nu ≤ 10 ∧ 1 ≤ s.ag ∧ s.ag ≤ 1000000 ∧ 1 ≤ s.si ∧ s.si ≤ 1000000 ∧ 1 ≤ s.bu ∧ s.bu ≤ 1000000 ∧ 1 ≤ s.pe ∧ s.pe ≤ 1000 := by
  unfold Site.right inB at h
  simp only [Bool.and_eq_true, decide_eq_true_eq] at h
  omega

theorem bool_arg {u : AV} (h : isArg tt 4 u) : ∃ b : Bool, u = boo b := by
  obtain ⟨n, e⟩ := h
  exact ⟨n, (List.cons.inj e).1⟩
theorem door_arg {u : AV} (h : isArg tt 35 u) : ∃ d : Door, u = d.av ∧ -9223372036854775808 ≤ d.ph ∧ d.ph ≤ 9223372036854775807 ∧ -9223372036854775808 ≤ d.le ∧ d.le ≤ 9223372036854775807 ∧ -9223372036854775808 ≤ d.ru ∧ d.ru ≤ 9223372036854775807 := by
  obtain ⟨_, ⟨_, _, rfl, ⟨a1, rfl, w1⟩, _, _, rfl, ⟨a2, rfl, w2⟩, _, _, rfl, ⟨a3, rfl, w3⟩, _, _, rfl, ⟨a4, rfl⟩, rfl⟩, rfl⟩ := h
  have h1 := wf_i64 w1; have h2 := wf_i64 w2; have h3 := wf_i64 w3
  exact ⟨⟨a1, a2, a3, a4⟩, rfl, h1.1, h1.2, h2.1, h2.2, h3.1, h3.2⟩
theorem bytes_arg {u : AV} (h : isArg tt 43 u) : ∃ (l : List Int) (g : Nat → List AV), u = .i 1 l.length g ∧ IsRow eY (.i 1 l.length g) l ∧ ∀ x ∈ l, 0 ≤ x ∧ x ≤ 255 := by
  obtain ⟨m, g, e, hm, hg, _⟩ := h
  obtain rfl := (List.cons.inj e).1
  obtain ⟨l, rfl, h1, h2⟩ := row_of eY (m := m) (g := g) (p := fun x => 0 ≤ x ∧ x ≤ 255) (fun k hk => by obtain ⟨z, hz, hw⟩ := hg k hk; exact ⟨z, hz, wf_u8 hw⟩) (by have : m * 1 < 281474976710656 := hm; omega)
  exact ⟨l, g, rfl, h1, h2⟩
theorem Door.right_bd {s : Site} {d : Door} (h : d.right s = true) : s.right = true ∧ 0 ≤ d.ph ∧ d.ph ≤ 3 ∧ (d.ph = 0 → d.le = 0 ∧ d.ru = 0 ∧ d.he = false) ∧ (d.ph ≠ 0 → 0 ≤ d.ru ∧ d.ru ≤ s.nu ∧ 1 ≤ d.le ∧ d.le ≤ s.tk d.ph) := by
  unfold Door.right at h
  simp only [Bool.and_eq_true, decide_eq_true_eq] at h
  obtain ⟨h1, h2, h3, h4⟩ := h
  refine ⟨h1, h2, h3, fun h0 => ?_, fun h0 => ?_⟩
  · rw [if_pos h0] at h4
    simpa using h4
  · rw [if_neg h0] at h4
    simpa using h4
theorem Site.tk_bd {s : Site} (h : s.right = true) (p : Int) : 0 ≤ s.tk p ∧ s.tk p ≤ 1000 := by
  have := Site.right_bd h
  unfold Site.tk
  split <;> (try split) <;> (try split) <;> omega
theorem Door.right_small {s : Site} {d : Door} (h : d.right s = true) : smallN d.ph = true ∧ smallN d.le = true ∧ smallN d.ru = true ∧ (decide (d.ph = 0) || decide (1 ≤ d.le)) = true := by
  obtain ⟨h1, h2, h3, h4, h5⟩ := Door.right_bd h
  have h6 := Site.tk_bd h1 d.ph
  have h7 := Site.right_bd h1
  unfold smallN
  simp only [Bool.and_eq_true, Bool.or_eq_true, decide_eq_true_eq]
  by_cases h0 : d.ph = 0
  · have := h4 h0; omega
  · have := h5 h0; omega
theorem Door.right_mk {s : Site} {d : Door} (h1 : s.right = true) (h2 : 0 ≤ d.ph) (h3 : d.ph ≤ 3) (h4 : d.ph = 0 → d.le = 0 ∧ d.ru = 0 ∧ d.he = false) (h5 : d.ph ≠ 0 → 0 ≤ d.ru ∧ d.ru ≤ s.nu ∧ 1 ≤ d.le ∧ d.le ≤ s.tk d.ph) : d.right s = true := by
  unfold Door.right
  simp only [Bool.and_eq_true, decide_eq_true_eq]
  refine ⟨h1, h2, h3, ?_⟩
  by_cases h0 : d.ph = 0
  · rw [if_pos h0]; simpa using h4 h0
  · rw [if_neg h0]; simpa using h5 h0
theorem enter_right {s : Site} {d : Door} (hs : s.right = true) (h1 : 0 ≤ d.ru) (h2 : d.ru ≤ s.nu) {p : Int} (hp : 0 ≤ p) (hp' : p ≤ 3) : (d.enter s p).right s = true := by
  have hb := Site.right_bd hs
  unfold Door.enter
  by_cases h0 : p = 0
  · subst h0; exact Door.right_mk hs (by simp) (by simp) (by simp) (by simp)
  · rw [if_neg h0]
    refine Door.right_mk hs hp hp' (fun h => absurd h h0) fun _ => ⟨h1, h2, ?_, Int.le_refl _⟩
    show 1 ≤ s.tk p
    have : p = 1 ∨ p = 2 ∨ p = 3 := by omega
    rcases this with rfl | rfl | rfl <;> simp [Site.tk] <;> omega
theorem hold_ru {s : Site} {d : Door} {b : Bool} (h1 : 0 ≤ d.ru) (h2 : d.ru ≤ s.nu) : 0 ≤ (d.hold s b).ru ∧ (d.hold s b).ru ≤ s.nu := by
  unfold Door.hold
  split
  · split
    · rename_i h; simp at h; dsimp; omega
    · exact ⟨h1, h2⟩
  · exact ⟨h1, h2⟩
theorem step_right {s : Site} {d : Door} (h : d.right s = true) (o b : Bool) : (d.step s o b).right s = true := by
  obtain ⟨h1, h2, h3, h4, h5⟩ := Door.right_bd h
  have hb := Site.right_bd h1
  unfold Door.step
  by_cases h0 : d.ph = 0
  · rw [if_pos h0]
    split
    · exact enter_right h1 (by rw [(h4 h0).2.1]; omega) (by rw [(h4 h0).2.1]; omega) (by decide) (by decide)
    · exact h
  · rw [if_neg h0]
    have h6 := h5 h0
    have h7 := hold_ru (b := b) h6.1 h6.2.1
    split
    · exact enter_right h1 h7.1 h7.2 (by decide) (by decide)
    · split
      · exact enter_right h1 h7.1 h7.2 (by decide) (by decide)
      · split
        · rename_i hg
          rw [hold_le] at hg
          refine Door.right_mk h1 (by rw [hold_ph]; exact h2) (by rw [hold_ph]; exact h3) (fun h => absurd h (by rw [hold_ph]; exact h0)) fun _ => ⟨h7.1, h7.2, ?_, ?_⟩
          · dsimp; rw [hold_le]; omega
          · dsimp; rw [hold_le, hold_ph]; omega
        · rw [hold_ph]
          refine enter_right h1 h7.1 h7.2 ?_ ?_
          · have := Int.tmod_nonneg (a := d.ph + 1) 4 (by omega); exact this
          · have := Int.tmod_lt_of_pos (d.ph + 1) (b := 4) (by decide); omega

/-! ### DoorHeld -/
theorem DoorHeld (us : List AV) (h : areArgs tt [32, 3] us) : runF XDL Try.f8 us [] (boo true) [] := by
  obtain ⟨_, _, rfl, hs, _, _, rfl, hn, rfl⟩ := h
  obtain ⟨s, rfl⟩ := site_arg hs
  obtain ⟨n, rfl, n1, n2⟩ := int_arg hn
  clear hs hn
  unfold runF
  (conv => arg 1; whnf)
  refine br (fun h => ?_) (fun h => ?_)
  · (conv => arg 1; whnf); (repeat' (first | (refine brt (by assumption) ?_; (conv => arg 1; whnf)) | (refine brf (by assumption) ?_; (conv => arg 1; whnf)) | fail))
    exact finB rfl
  · (conv => arg 1; whnf); (repeat' (first | (refine brt (by assumption) ?_; (conv => arg 1; whnf)) | (refine brf (by assumption) ?_; (conv => arg 1; whnf)) | fail))
    have hr : s.right = true := by simpa using h
    have hb := Site.right_bd hr
    refine br (fun h => ?_) (fun h => ?_)
    · (conv => arg 1; whnf); (repeat' (first | (refine brt (by assumption) ?_; (conv => arg 1; whnf)) | (refine brf (by assumption) ?_; (conv => arg 1; whnf)) | fail))
      exact finB rfl
    · have hnu := of_decide_eq_false h
      (conv => arg 1; whnf); (repeat' (first | (refine brt (by assumption) ?_; (conv => arg 1; whnf)) | (refine brf (by assumption) ?_; (conv => arg 1; whnf)) | fail))
      clear h
      have hm : (bits .and .i64 n 63) = n % 64 := and63 n
      refine loopIn (fun k : Nat => k ≤ (n % 64).toNat + 1) (fun k => frm 57 [(2, .p 0 0), (5, .p 1 0), (6, i64 (n % 64 + 1)), (7, i64 k)])
        (fun k => [.lit [i64 s.fl, i64 s.ca, i64 s.st, i64 s.sp, i64 s.so, i64 s.op, i64 s.wa, i64 s.cl, i64 s.nu, i64 s.ag, i64 s.si, i64 s.bu, i64 s.pe], .lit [i64 2, i64 s.wa, i64 (if k = 0 then 0 else 1), boo (decide (k ≠ 0))]])
        (fun k => (n % 64).toNat + 1 - k) 0 [0, 1] (Nat.zero_le _) (by decide) ?_ ?_ rfl fun k hi => ?_
      · repeat' (first | exact True.intro | exact Fit.dead _ | exact Fit.v _ | exact .i fun _ _ => rfl | exact Fit.ip | exact .p rfl | exact .q rfl | exact .s rfl | exact .y rfl | refine Fit.al ?_ | refine Fit.fl ?_ ?_ | refine And.intro ?_ ?_)
        exact Fit.v' (congrArg (Value.int .i64) (by show n % 64 + 1 = IntKind.i64.wrap (bits .and .i64 n 63 + 1); rw [hm, wi _ (by omega) (by omega)]))
      · exact ⟨⟨_, rfl, .lit (by repeat' (first | exact True.intro | exact Fit.dead _ | exact Fit.v _ | exact .i fun _ _ => rfl | exact Fit.ip | exact .p rfl | exact .q rfl | exact .s rfl | exact .y rfl | refine Fit.al ?_ | refine Fit.fl ?_ ?_ | refine And.intro ?_ ?_))⟩, ⟨_, rfl, .lit (by repeat' (first | exact True.intro | exact Fit.dead _ | exact Fit.v _ | exact .i fun _ _ => rfl | exact Fit.ip | exact .p rfl | exact .q rfl | exact .s rfl | exact .y rfl | refine Fit.al ?_ | refine Fit.fl ?_ ?_ | refine And.intro ?_ ?_))⟩, trivial⟩
      · have hst : Door.step s ⟨2, s.wa, if k = 0 then 0 else 1, decide (k ≠ 0)⟩ false true = ⟨2, s.wa, 1, true⟩ := by
          by_cases h0 : k = 0
          · subst h0; simp [Door.step, Door.hold, Door.enter, Site.tk, show (0 : Int) < s.nu by omega]
          · simp [Door.step, Door.hold, Door.enter, Site.tk, h0]
        (conv => arg 1; whnf)
        refine br (fun h => ?_) (fun h => ?_)
        · have hk := of_decide_eq_true h
          (conv => arg 1; whnf); (repeat' (first | (refine brt (by assumption) ?_; (conv => arg 1; whnf)) | (refine brf (by assumption) ?_; (conv => arg 1; whnf)) | fail))
          refine brt (by simp only [smallN, Bool.and_eq_true, decide_eq_true_eq]; split <;> omega) ?_
          (conv => arg 1; whnf)
          refine brf (by rw [hst]; simp) ?_
          (conv => arg 1; whnf)
          refine again (k + 1) [0, 1] (by omega) (by omega) (by decide) ?_ ?_ rfl
          · repeat' (first | exact True.intro | exact Fit.dead _ | exact Fit.v _ | exact .i fun _ _ => rfl | exact Fit.ip | exact .p rfl | exact .q rfl | exact .s rfl | exact .y rfl | refine Fit.al ?_ | refine Fit.fl ?_ ?_ | refine And.intro ?_ ?_)
            exact Fit.v' (congrArg (Value.int .i64) (by rw [wi _ (by omega) (by omega)]; omega))
          · refine ⟨⟨_, rfl, .lit (by repeat' (first | exact True.intro | exact Fit.dead _ | exact Fit.v _ | exact .i fun _ _ => rfl | exact Fit.ip | exact .p rfl | exact .q rfl | exact .s rfl | exact .y rfl | refine Fit.al ?_ | refine Fit.fl ?_ ?_ | refine And.intro ?_ ?_))⟩, ⟨_, rfl, .lit ⟨.v' ?_, .v' ?_, .v' ?_, .v' ?_, trivial⟩⟩, trivial⟩
            all_goals (first | (refine congrArg (Value.int .i64) ?_) | (refine congrArg Value.bool ?_))
            all_goals (rw [hst])
            all_goals simp
        · have hk := of_decide_eq_false h
          obtain rfl : k = (n % 64).toNat + 1 := by omega
          clear h hi
          clear hst
          have hst : Door.step s ⟨2, s.wa, 1, true⟩ false false = if s.wa = 1 then ⟨3, s.cl, 1, false⟩ else ⟨2, s.wa - 1, 1, false⟩ := by
            by_cases h1 : s.wa = 1
            · simp [Door.step, Door.hold, Door.enter, Site.tk, h1]
            · simp [Door.step, Door.hold, Door.enter, Site.tk, h1, show s.wa - 1 > 0 by omega, show 1 < s.wa by omega]
          (conv => arg 1; whnf)
          refine leaveAs (frm 57 [(2, .p 0 0), (5, .p 1 0)]) [.lit [i64 s.fl, i64 s.ca, i64 s.st, i64 s.sp, i64 s.so, i64 s.op, i64 s.wa, i64 s.cl, i64 s.nu, i64 s.ag, i64 s.si, i64 s.bu, i64 s.pe], .lit [i64 2, i64 s.wa, i64 1, boo true]] [0, 1] (by decide) ?_ ?_ rfl ?_
          · repeat' (first | exact True.intro | exact Fit.dead _ | exact Fit.v _ | exact .i fun _ _ => rfl | exact Fit.ip | exact .p rfl | exact .q rfl | exact .s rfl | exact .y rfl | refine Fit.al ?_ | refine Fit.fl ?_ ?_ | refine And.intro ?_ ?_)
          · refine ⟨⟨_, rfl, .lit (by repeat' (first | exact True.intro | exact Fit.dead _ | exact Fit.v _ | exact .i fun _ _ => rfl | exact Fit.ip | exact .p rfl | exact .q rfl | exact .s rfl | exact .y rfl | refine Fit.al ?_ | refine Fit.fl ?_ ?_ | refine And.intro ?_ ?_))⟩, ⟨_, rfl, .lit ⟨.v _, .v _, .v' ?_, .v' ?_, trivial⟩⟩, trivial⟩
            · rw [if_neg (by omega)]
            · rw [decide_eq_true (by omega)]
          · show tr _
            (conv => arg 1; whnf)
            refine brt (by simp only [smallN, Bool.and_eq_true, decide_eq_true_eq]; omega) ?_
            (conv => arg 1; whnf)
            have hA : (!(Door.step s ⟨2, s.wa, 1, true⟩ false false).he) = true := by rw [hst]; split <;> rfl
            have hB : decide ((Door.step s ⟨2, s.wa, 1, true⟩ false false).ru = 1) = true := by rw [hst]; split <;> rfl
            repeat' (first | (refine brt (by assumption) ?_; (conv => arg 1; whnf)) | fail)
            refine finB ?_
            rw [hst]
            by_cases h1 : s.wa = 1 <;> simp [h1]

/-! ### DoorSteps -/
theorem DoorSteps (us : List AV) (h : areArgs tt [32, 35, 43] us) : runF XDL Try.f9 us [] (boo true) [] := by
  obtain ⟨_, _, rfl, hs, _, _, rfl, hd, _, _, rfl, hl, rfl⟩ := h
  obtain ⟨s, rfl⟩ := site_arg hs
  obtain ⟨d, rfl, hd'⟩ := door_arg hd
  obtain ⟨l, g, rfl, hl1, hl2⟩ := bytes_arg hl
  clear hs hd hl
  have hlen := hl1.len
  unfold runF
  (conv => arg 1; whnf)
  refine br (fun h => ?_) (fun h => ?_)
  · (conv => arg 1; whnf); (repeat' (first | (refine brt (by assumption) ?_; (conv => arg 1; whnf)) | (refine brf (by assumption) ?_; (conv => arg 1; whnf)) | fail))
    exact finB h.symm
  · have h300 := of_decide_eq_false h
    (conv => arg 1; whnf); (repeat' (first | (refine brt (by assumption) ?_; (conv => arg 1; whnf)) | (refine brf (by assumption) ?_; (conv => arg 1; whnf)) | fail))
    refine brf (by simp) ?_
    (conv => arg 1; whnf); (repeat' (first | (refine brt (by assumption) ?_; (conv => arg 1; whnf)) | (refine brf (by assumption) ?_; (conv => arg 1; whnf)) | fail))
    refine br (fun hr => ?_) (fun hr => ?_)
    · (conv => arg 1; whnf); (repeat' (first | (refine brt (by assumption) ?_; (conv => arg 1; whnf)) | (refine brf (by assumption) ?_; (conv => arg 1; whnf)) | fail))
      exact finB rfl
    · have hr : d.right s = true := by simpa using hr
      (conv => arg 1; whnf); (repeat' (first | (refine brt (by assumption) ?_; (conv => arg 1; whnf)) | (refine brf (by assumption) ?_; (conv => arg 1; whnf)) | fail))
      clear h
      refine loopIn (fun x : Nat × Door => x.1 ≤ l.length ∧ x.2.right s = true) (fun x => frm 65 [(3, .p 0 0), (4, .p 1 0), (31, row eY l), (32, i64 l.length), (33, i64 x.1)])
        (fun x => [.lit [i64 s.fl, i64 s.ca, i64 s.st, i64 s.sp, i64 s.so, i64 s.op, i64 s.wa, i64 s.cl, i64 s.nu, i64 s.ag, i64 s.si, i64 s.bu, i64 s.pe], .lit [i64 x.2.ph, i64 x.2.le, i64 x.2.ru, boo x.2.he]])
        (fun x => l.length - x.1) (0, d) [0, 1] ⟨Nat.zero_le _, hr⟩ (by decide) ?_ ?_ rfl fun x hi => ?_
      · repeat' (first | exact True.intro | exact Fit.dead _ | exact Fit.v _ | exact hl1.fit _ _ | exact .p rfl | refine And.intro ?_ ?_)
      · exact ⟨⟨_, rfl, .lit (by repeat' (first | exact True.intro | exact Fit.dead _ | exact Fit.v _ | exact .i fun _ _ => rfl | exact Fit.ip | exact .p rfl | exact .q rfl | exact .s rfl | exact .y rfl | refine Fit.al ?_ | refine Fit.fl ?_ ?_ | refine And.intro ?_ ?_))⟩, ⟨_, rfl, .lit (by repeat' (first | exact True.intro | exact Fit.dead _ | exact Fit.v _ | exact .i fun _ _ => rfl | exact Fit.ip | exact .p rfl | exact .q rfl | exact .s rfl | exact .y rfl | refine Fit.al ?_ | refine Fit.fl ?_ ?_ | refine And.intro ?_ ?_))⟩, trivial⟩
      · obtain ⟨k, d⟩ := x
        obtain ⟨hk, hr⟩ := hi
        dsimp only at hk hr
        clear hd' hl1
        obtain ⟨c1, c2, c3, c4⟩ := Door.right_small hr
        have hbd := Door.right_bd hr
        (conv => arg 1; whnf)
        refine br (fun h => ?_) (fun h => ?_)
        · have hk' := of_decide_eq_true h
          (conv => arg 1; whnf); (repeat' (first | (refine brt (by assumption) ?_; (conv => arg 1; whnf)) | (refine brf (by assumption) ?_; (conv => arg 1; whnf)) | fail))
          refine brt (by simp only [Bool.and_eq_true, decide_eq_true_eq]; exact ⟨⟨⟨⟨hbd.2.1, hbd.2.2.1⟩, c2⟩, c3⟩, c4⟩) ?_
          (conv => arg 1; whnf); (repeat' (first | (refine brt (by assumption) ?_; (conv => arg 1; whnf)) | (refine brf (by assumption) ?_; (conv => arg 1; whnf)) | fail))
          refine brt (by simp only [Bool.and_eq_true]; exact ⟨⟨c1, c2⟩, c3⟩) ?_
          (conv => arg 1; whnf); (repeat' (first | (refine brt (by assumption) ?_; (conv => arg 1; whnf)) | (refine brf (by assumption) ?_; (conv => arg 1; whnf)) | fail))
          have hsr : ∀ o b, (d.step s o b).right s = true := step_right hr
          repeat' (first | (refine brf ?_ ?_; (focus (simp; done)); (conv => arg 1; whnf)) | (refine brf ?_ ?_; (focus (exact congrArg (!·) (hsr _ _); done)); (conv => arg 1; whnf)) | fail)
          refine again (k + 1, d.step s (decide (bits .and .u8 (l.getD k 0) 1 = 1)) (decide (bits .and .u8 (l.getD k 0) 2 = 2))) [0, 1] ?_ ?_ (by decide) ?_ ?_ ?_
          · exact ⟨by show k + 1 ≤ l.length; omega, hsr _ _⟩
          · show l.length - (k + 1) < l.length - k; omega
          · repeat' (first | exact True.intro | exact Fit.dead _ | exact Fit.v _ | exact .i fun _ _ => rfl | exact Fit.ip | exact .p rfl | exact .q rfl | exact .s rfl | exact .y rfl | refine Fit.al ?_ | refine Fit.fl ?_ ?_ | refine And.intro ?_ ?_)
            exact Fit.v' (congrArg (Value.int .i64) (by show ((k + 1 : Nat) : Int) = IntKind.i64.wrap ((k : Int) + 1); rw [wi _ (by omega) (by omega)]; omega))
          · refine ⟨⟨_, rfl, .lit (by repeat' (first | exact True.intro | exact Fit.dead _ | exact Fit.v _ | exact .i fun _ _ => rfl | exact Fit.ip | exact .p rfl | exact .q rfl | exact .s rfl | exact .y rfl | refine Fit.al ?_ | refine Fit.fl ?_ ?_ | refine And.intro ?_ ?_))⟩, ⟨_, rfl, .lit (by repeat' (first | exact True.intro | exact Fit.dead _ | exact Fit.v _ | exact .i fun _ _ => rfl | exact Fit.ip | exact .p rfl | exact .q rfl | exact .s rfl | exact .y rfl | refine Fit.al ?_ | refine Fit.fl ?_ ?_ | refine And.intro ?_ ?_))⟩, trivial⟩
          · rfl
        · have hk' := of_decide_eq_false h
          (conv => arg 1; whnf)
          refine leave ?_
          show tr _
          (conv => arg 1; whnf)
          exact finB rfl
end Go.Proofs.Ytohgniddfpjjfaa.E
