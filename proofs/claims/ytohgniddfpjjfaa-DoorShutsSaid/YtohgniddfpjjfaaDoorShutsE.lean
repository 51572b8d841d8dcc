/- The law of doors that are shut in the end, by the engine. -/
import Derived.Test.YtohgniddfpjjfaaDoorLawsE
namespace Go.Proofs.Ytohgniddfpjjfaa.E
open Go
set_option linter.unusedSimpArgs false
set_option linter.unusedVariables false
set_option maxRecDepth 100000
set_option maxHeartbeats 4000000

/-- The ticks that a door has yet, if nobody holds it. -/
def Door.rem (s : Site) (d : Door) : Int := if d.ph = 1 then d.le + s.wa + s.cl else if d.ph = 2 then d.le + s.cl else d.le
/-- The ticks that it has yet at most: q is a run's worth. -/
def Door.pot (s : Site) (q left : Int) (d : Door) : Int := if d.ph = 0 then 0 else (s.nu - d.ru) * q + (if d.he = true ∧ 0 < left then s.op + s.wa + s.cl + left else d.rem s)
theorem pot_free {s : Site} {d : Door} {q : Int} (hd : d.right s = true) (h0 : d.ph ≠ 0) (hq : 0 ≤ q) : (d.step s false false).pot s q 0 + 1 ≤ (s.nu - d.ru) * q + d.rem s := by
  obtain ⟨hs, h1, h2, h3, h4⟩ := Door.right_bd hd
  obtain ⟨g1, g2, g3, g4⟩ := h4 h0
  have hb := Site.right_bd hs
  have hp : 0 ≤ (s.nu - d.ru) * q := Int.mul_nonneg (by omega) hq
  obtain ⟨ph, le, ru, he⟩ := d
  simp only at *
  have hph : ph = 1 ∨ ph = 2 ∨ ph = 3 := by omega
  rcases hph with rfl | rfl | rfl
  all_goals simp only [Door.step, Door.hold, Bool.false_eq_true, if_false, Bool.false_and, Site.tk, Door.rem] at *
  all_goals simp only [show ((1 : Int) + 1).tmod 4 = 2 by decide, show ((2 : Int) + 1).tmod 4 = 3 by decide, show ((3 : Int) + 1).tmod 4 = 0 by decide, show ¬ (1 : Int) = 0 by decide, show ¬ (2 : Int) = 0 by decide, show ¬ (3 : Int) = 0 by decide, show ¬ (2 : Int) = 1 by decide, show ¬ (3 : Int) = 1 by decide, show ¬ (3 : Int) = 2 by decide, if_true, if_false] at *
  all_goals (split <;> simp [Door.pot, Door.enter, Door.rem, Site.tk] <;> omega)
theorem pot_held {s : Site} {d : Door} {q left : Int} (hd : d.right s = true) (h0 : d.ph ≠ 0) (hl : 0 < left) (hq : s.op + s.wa + s.cl + left ≤ q) : (d.step s false true).pot s q (left - 1) + 1 ≤ (s.nu - d.ru) * q + (if d.he = true then s.op + s.wa + s.cl + left else d.rem s) := by
  obtain ⟨hs, h1, h2, h3, h4⟩ := Door.right_bd hd
  obtain ⟨g1, g2, g3, g4⟩ := h4 h0
  have hb := Site.right_bd hs
  have hp : 0 ≤ (s.nu - d.ru) * q := Int.mul_nonneg (by omega) (by omega)
  have hp1 : (s.nu - (d.ru + 1)) * q = (s.nu - d.ru) * q - q := by rw [show s.nu - (d.ru + 1) = s.nu - d.ru - 1 by omega, Int.sub_mul]; omega
  obtain ⟨ph, le, ru, he⟩ := d
  simp only at *
  have hph : ph = 1 ∨ ph = 2 ∨ ph = 3 := by omega
  by_cases hr : ru < s.nu
  · have hp2 : 0 ≤ (s.nu - (ru + 1)) * q := Int.mul_nonneg (by omega) (by omega)
    rcases hph with rfl | rfl | rfl <;> cases he
    all_goals simp only [Door.step, Door.hold, hr, decide_true, Bool.not_false, Bool.not_true, Bool.true_and, Bool.false_and, Bool.false_eq_true, if_true, if_false, Site.tk, Door.rem] at *
    all_goals simp only [show ((1 : Int) + 1).tmod 4 = 2 by decide, show ((2 : Int) + 1).tmod 4 = 3 by decide, show ((3 : Int) + 1).tmod 4 = 0 by decide, show ¬ (1 : Int) = 0 by decide, show ¬ (2 : Int) = 0 by decide, show ¬ (3 : Int) = 0 by decide, show ¬ (2 : Int) = 1 by decide, show ¬ (3 : Int) = 1 by decide, show ¬ (3 : Int) = 2 by decide, show ¬ (1 : Int) = 2 by decide, show ¬ (1 : Int) = 3 by decide, show ¬ (2 : Int) = 3 by decide, decide_true, decide_false, Bool.false_eq_true, if_true, if_false] at *
    all_goals ((try split) <;> simp [Door.pot, Door.enter, Door.rem, Site.tk] <;> (try split) <;> omega)
  · rcases hph with rfl | rfl | rfl <;> cases he
    all_goals simp only [Door.step, Door.hold, hr, decide_false, decide_true, Bool.not_false, Bool.not_true, Bool.true_and, Bool.false_and, Bool.false_eq_true, if_true, if_false, Site.tk, Door.rem] at *
    all_goals simp only [show ((1 : Int) + 1).tmod 4 = 2 by decide, show ((2 : Int) + 1).tmod 4 = 3 by decide, show ((3 : Int) + 1).tmod 4 = 0 by decide, show ¬ (1 : Int) = 0 by decide, show ¬ (2 : Int) = 0 by decide, show ¬ (3 : Int) = 0 by decide, show ¬ (2 : Int) = 1 by decide, show ¬ (3 : Int) = 1 by decide, show ¬ (3 : Int) = 2 by decide, show ¬ (1 : Int) = 2 by decide, show ¬ (1 : Int) = 3 by decide, show ¬ (2 : Int) = 3 by decide, decide_true, decide_false, Bool.false_eq_true, if_true, if_false] at *
    all_goals ((try split) <;> simp [Door.pot, Door.enter, Door.rem, Site.tk] <;> (try split) <;> omega)
theorem ints_arg {u : AV} (h : isArg tt 25 u) : ∃ l : List Int, u = row eI l ∧ l.length < 281474976710656 ∧ ∀ x ∈ l, -9223372036854775808 ≤ x ∧ x ≤ 9223372036854775807 := by
  obtain ⟨m, g, e, hm, hg, hz⟩ := h
  obtain ⟨l, h1, h2, h3⟩ := row_eq eI (m := m) (g := g) (p := fun x => -9223372036854775808 ≤ x ∧ x ≤ 9223372036854775807) (fun k hk => by obtain ⟨z, hz, hw⟩ := hg k hk; exact ⟨z, hz, wf_i64 hw⟩) hz (by have : m * 1 < 281474976710656 := hm; omega)
  exact ⟨l, (List.cons.inj e).1.trans h1, h2, h3⟩
theorem step_he (s : Site) (d : Door) (o : Bool) (h : d.ph ≠ 0) : (d.step s o false).he = false := by
  unfold Door.step
  rw [if_neg h]
  simp only [Door.hold, Bool.false_eq_true, if_false, Bool.false_and]
  split
  · rfl
  · unfold Door.enter; split <;> rfl
abbrev siteB (s : Site) : Blk := .lit [i64 s.fl, i64 s.ca, i64 s.st, i64 s.sp, i64 s.so, i64 s.op, i64 s.wa, i64 s.cl, i64 s.nu, i64 s.ag, i64 s.si, i64 s.bu, i64 s.pe]
abbrev doorB (d : Door) : Blk := .lit [i64 d.ph, i64 d.le, i64 d.ru, boo d.he]
structure ShSt where
  n : Int
  left : Int
  gap : Int
  next : Nat
  d : Door
theorem DoorShuts (us : List AV) (h : areArgs tt [32, 3, 25] us) : runF XDL Try.f6 us [] (boo true) [] := by
  obtain ⟨_, _, rfl, hs, _, _, rfl, hh, _, _, rfl, hl, rfl⟩ := h
  obtain ⟨s, rfl⟩ := site_arg hs
  obtain ⟨hold, rfl, hh1, hh2⟩ := int_arg hh
  obtain ⟨l, rfl, hlen, hl2⟩ := ints_arg hl
  clear hs hh hl
  have hk : bits .and .i64 hold 7 = hold % 8 := and7 _
  generalize hkk : bits .and .i64 hold 7 = k at *
  have hk0 : 0 ≤ k ∧ k ≤ 7 := by omega
  subst hkk
  unfold runF
  (conv => arg 1; whnf)
  refine br (fun h => ?_) (fun h => ?_)
  · (conv => arg 1; whnf); (repeat' (first | (refine brt (by assumption) ?_; (conv => arg 1; whnf)) | (refine brf (by assumption) ?_; (conv => arg 1; whnf)) | fail))
    exact finB rfl
  · (conv => arg 1; whnf); (repeat' (first | (refine brt (by assumption) ?_; (conv => arg 1; whnf)) | (refine brf (by assumption) ?_; (conv => arg 1; whnf)) | fail))
    have hr : s.right = true := by simpa using h
    have hb := Site.right_bd hr
    refine br (fun h => ?_) (fun h => ?_)
    · (conv => arg 1; whnf); (repeat' (first | (refine brt (by assumption) ?_; (conv => arg 1; whnf)) | (refine brf (by assumption) ?_; (conv => arg 1; whnf)) | fail))
      exact finB rfl
    · have h200 := of_decide_eq_false h
      (conv => arg 1; whnf); (repeat' (first | (refine brt (by assumption) ?_; (conv => arg 1; whnf)) | (refine brf (by assumption) ?_; (conv => arg 1; whnf)) | fail))
      have w1 : IntKind.i64.wrap (s.op + s.wa) = s.op + s.wa := wi _ (by omega) (by omega)
      have w2 : IntKind.i64.wrap (IntKind.i64.wrap (s.op + s.wa) + s.cl) = s.op + s.wa + s.cl := by rw [w1, wi _ (by omega) (by omega)]
      refine br (fun h => ?_) (fun h => ?_)
      · (conv => arg 1; whnf); (repeat' (first | (refine brt (by assumption) ?_; (conv => arg 1; whnf)) | (refine brf (by assumption) ?_; (conv => arg 1; whnf)) | fail))
        exact finB rfl
      · have h60 := of_decide_eq_false h
        rw [w2] at h60
        (conv => arg 1; whnf); (repeat' (first | (refine brt (by assumption) ?_; (conv => arg 1; whnf)) | (refine brf (by assumption) ?_; (conv => arg 1; whnf)) | fail))
        have hq0 : s.op + s.wa + s.cl + 4 + bits .and .i64 hold 7 ≤ 71 := by omega
        have hq1 : 0 ≤ s.op + s.wa + s.cl + 4 + bits .and .i64 hold 7 := by omega
        generalize hqq : s.op + s.wa + s.cl + 4 + bits .and .i64 hold 7 = q at *
        have hnq : 0 ≤ s.nu * q := Int.mul_nonneg (by omega) (by omega)
        have hnq' : s.nu * q ≤ 10 * 71 := Int.mul_le_mul (by omega) (by omega) (by omega) (by omega)
        have hf0 : Door.step s ⟨0, 0, 0, false⟩ true true = ⟨1, s.op, 0, false⟩ := by simp [Door.step, Door.enter, Site.tk]
        refine loopIn (fun x : ShSt => x.d.right s = true ∧ 0 ≤ x.n ∧ x.n + x.d.pot s q x.left ≤ s.op + s.wa + s.cl + s.nu * q ∧ 0 ≤ x.left ∧ x.left ≤ bits .and .i64 hold 7 ∧ 0 ≤ x.gap ∧ x.gap ≤ 4 ∧ x.next ≤ l.length ∧ (x.d.he = true ∨ 0 < x.left → 0 < x.gap))
          (fun x => frm 127 [(2, row eI l), (3, .p 0 0), (7, i64 (bits .and .i64 hold 7)), (8, i64 (s.op + s.wa + s.cl + 4 + s.nu * q)), (9, .p 1 0), (10, i64 x.n), (11, i64 x.left), (12, i64 x.gap), (13, i64 x.next)])
          (fun x => [siteB s, doorB x.d])
          (fun x => (x.d.pot s q x.left).toNat) ⟨0, 0, 0, 0, ⟨1, s.op, 0, false⟩⟩ [0, 1] ?_ (by decide) ?_ ?_ rfl fun x hi => ?_
        · refine ⟨?_, Int.le_refl 0, ?_, Int.le_refl 0, hk0.1, Int.le_refl 0, (by show (0 : Int) ≤ 4; decide), Nat.zero_le _, fun h => by rcases h with h | h <;> cases h⟩
          · simp only [Door.right, hr, Site.tk]
            simp
            omega
          · simp only [Door.pot, Door.rem]
            simp
            omega
        · repeat' (first | exact True.intro | exact Fit.dead _ | exact Fit.v _ | exact .i fun _ _ => rfl | exact Fit.ip | exact .p rfl | exact .q rfl | exact .s rfl | exact .y rfl | refine Fit.al ?_ | refine Fit.fl ?_ ?_ | refine And.intro ?_ ?_)
          exact Fit.v' (congrArg (Value.int .i64) (show s.op + s.wa + s.cl + 4 + s.nu * q = IntKind.i64.wrap (IntKind.i64.wrap (IntKind.i64.wrap (IntKind.i64.wrap (s.op + s.wa) + s.cl) + 4) + IntKind.i64.wrap (s.nu * IntKind.i64.wrap (IntKind.i64.wrap (IntKind.i64.wrap (IntKind.i64.wrap (s.op + s.wa) + s.cl) + 4) + bits .and .i64 hold 7))) by
            rw [w2, wi (s.op + s.wa + s.cl + 4) (by omega) (by omega), hqq, wi q (by omega) (by omega), wi (s.nu * q) (by omega) (by omega), wi _ (by omega) (by omega)]))
        · refine ⟨⟨_, rfl, .lit (by repeat' (first | exact True.intro | exact Fit.dead _ | exact Fit.v _ | exact .i fun _ _ => rfl | exact Fit.ip | exact .p rfl | exact .q rfl | exact .s rfl | exact .y rfl | refine Fit.al ?_ | refine Fit.fl ?_ ?_ | refine And.intro ?_ ?_))⟩, ⟨_, rfl, .lit ?_⟩, trivial⟩
          show FitL [0, 1] _ _ [i64 (Door.step s ⟨0, 0, 0, false⟩ true true).ph, i64 (Door.step s ⟨0, 0, 0, false⟩ true true).le, i64 (Door.step s ⟨0, 0, 0, false⟩ true true).ru, boo (Door.step s ⟨0, 0, 0, false⟩ true true).he]
          rw [hf0]; repeat' (first | exact True.intro | exact Fit.dead _ | exact Fit.v _ | exact .i fun _ _ => rfl | exact Fit.ip | exact .p rfl | exact .q rfl | exact .s rfl | exact .y rfl | refine Fit.al ?_ | refine Fit.fl ?_ ?_ | refine And.intro ?_ ?_)
        · obtain ⟨n, left, gap, next, d⟩ := x
          obtain ⟨i1, i2, i3, i4, i5, i6, i7, i8, i9⟩ := hi
          simp only at i1 i2 i3 i4 i5 i6 i7 i8 i9
          (conv => arg 1; whnf)
          refine br (fun h => ?_) (fun h => ?_)
          · have h0 : d.ph ≠ 0 := by simpa using h
            obtain ⟨hs, r1, r2, r3, r4⟩ := Door.right_bd i1
            obtain ⟨g1, g2, g3, g4⟩ := r4 h0
            have hsr : ∀ b, (d.step s false b).right s = true := fun b => step_right i1 _ _
            have htk := Site.tk_bd hr d.ph
            have hpe : d.pot s q left = (s.nu - d.ru) * q + (if d.he = true ∧ 0 < left then s.op + s.wa + s.cl + left else d.rem s) := by unfold Door.pot; rw [if_neg h0]
            have hpot : 1 ≤ d.pot s q left := by
              have : 0 ≤ (s.nu - d.ru) * q := Int.mul_nonneg (by omega) (by omega)
              unfold Door.pot Door.rem
              rw [if_neg h0]
              (repeat' split) <;> omega
            have hsm : (smallN d.ph && smallN d.le && smallN d.ru) = true := by unfold smallN; simp only [Bool.and_eq_true, decide_eq_true_eq]; omega
            have e1 : decide (s.op + s.wa + s.cl + 4 + s.nu * q < n) = false := decide_eq_false (by omega)
            by_cases hA : left = 0 ∧ gap = 0 ∧ next < l.length
            · obtain ⟨a1, a2, a3⟩ := hA
              subst a1 a2
              have e2 : decide ((next : Int) < l.length) = true := decide_eq_true (by omega)
              have e3 : (decide (0 ≤ (next : Int)) && decide ((next : Int) < l.length)) = true := by simp only [Bool.and_eq_true, decide_eq_true_eq]; omega
              have hhe : d.he = false := by
                cases hd : d.he with
                | false => rfl
                | true => have := i9 (.inl hd); omega
              have hm3 : bits .and .i64 ((l.getD (next : Int).toNat eI.dflt).fdiv (2 ^ min (Int.toNat 3) IntKind.i64.bits)) 3 = ((l.getD (next : Int).toNat eI.dflt).fdiv (2 ^ min (Int.toNat 3) IntKind.i64.bits)) % 4 := and3 _
              have hm7 : bits .and .i64 (l.getD (next : Int).toNat eI.dflt) 7 = (l.getD (next : Int).toNat eI.dflt) % 8 := and7 _
              (conv => arg 1; whnf); (repeat' (first | (refine brt (by assumption) ?_; (conv => arg 1; whnf)) | (refine brf (by assumption) ?_; (conv => arg 1; whnf)) | fail))
              generalize hg : bits .and .i64 ((l.getD (next : Int).toNat eI.dflt).fdiv (2 ^ min (Int.toNat 3) IntKind.i64.bits)) 3 = g at *
              generalize hvv : mm false (bits .and .i64 (l.getD (next : Int).toNat eI.dflt) 7) (bits .and .i64 hold 7) = v at *
              have hv0 : 0 ≤ v ∧ v ≤ bits .and .i64 hold 7 := by
                rw [← hvv]; unfold mm; simp only
                split <;> omega
              rw [if_neg (by omega)] at hpe
              refine br (fun hv => ?_) (fun hv => ?_)
              · have hvp := of_decide_eq_true hv
                have hp := pot_held i1 h0 hvp (by omega : s.op + s.wa + s.cl + v ≤ q)
                rw [hhe, if_neg (by decide)] at hp
                (conv => arg 1; whnf); (repeat' (first | (refine brt (by assumption) ?_; (conv => arg 1; whnf)) | (refine brf (by assumption) ?_; (conv => arg 1; whnf)) | fail))
                refine again ⟨n + 1, v - 1, g + 1, next + 1, d.step s false true⟩ [0, 1] ?_ ?_ (by decide) ?_ ?_ ?_
                · refine ⟨hsr _, ?_, ?_, ?_, ?_, ?_, ?_, ?_, ?_⟩
                  · show 0 ≤ n + 1
                    omega
                  · show n + 1 + (d.step s false true).pot s q (v - 1) ≤ _
                    omega
                  · show 0 ≤ v - 1
                    omega
                  · show v - 1 ≤ _
                    omega
                  · show 0 ≤ g + 1
                    omega
                  · show g + 1 ≤ 4
                    omega
                  · show next + 1 ≤ l.length
                    omega
                  · exact fun _ => (show 0 < g + 1 by omega)
                · show ((d.step s false true).pot s q (v - 1)).toNat < (d.pot s q 0).toNat
                  omega
                · repeat' (first | exact True.intro | exact Fit.dead _ | exact Fit.v _ | exact .i fun _ _ => rfl | exact Fit.ip | exact .p rfl | exact .q rfl | exact .s rfl | exact .y rfl | refine Fit.al ?_ | refine Fit.fl ?_ ?_ | refine And.intro ?_ ?_)
                  · exact Fit.v' (congrArg (Value.int .i64) (show n + 1 = IntKind.i64.wrap (n + 1) by rw [wi _ (by omega) (by omega)]))
                  · exact Fit.v' (congrArg (Value.int .i64) (show v - 1 = IntKind.i64.wrap (v - 1) by rw [wi _ (by omega) (by omega)]))
                  · exact Fit.v' (congrArg (Value.int .i64) (show g + 1 = IntKind.i64.wrap (g + 1) by rw [wi _ (by omega) (by omega)]))
                  · exact Fit.v' (congrArg (Value.int .i64) (show ((next + 1 : Nat) : Int) = IntKind.i64.wrap ((next : Int) + 1) by rw [wi _ (by omega) (by omega)]; omega))
                · refine ⟨⟨_, rfl, .lit (by repeat' (first | exact True.intro | exact Fit.dead _ | exact Fit.v _ | exact .i fun _ _ => rfl | exact Fit.ip | exact .p rfl | exact .q rfl | exact .s rfl | exact .y rfl | refine Fit.al ?_ | refine Fit.fl ?_ ?_ | refine And.intro ?_ ?_))⟩, ⟨_, rfl, .lit ?_⟩, trivial⟩
                  show FitL [0, 1] _ _ [i64 (d.step s false (decide (0 < v))).ph, i64 (d.step s false (decide (0 < v))).le, i64 (d.step s false (decide (0 < v))).ru, boo (d.step s false (decide (0 < v))).he]
                  rw [hv]; repeat' (first | exact True.intro | exact Fit.dead _ | exact Fit.v _ | exact .i fun _ _ => rfl | exact Fit.ip | exact .p rfl | exact .q rfl | exact .s rfl | exact .y rfl | refine Fit.al ?_ | refine Fit.fl ?_ ?_ | refine And.intro ?_ ?_)
                · rfl
              · have hvp := of_decide_eq_false hv
                have hv1 : v = 0 := by omega
                have hp : (d.step s false false).pot s q v + 1 ≤ (s.nu - d.ru) * q + d.rem s := by rw [hv1]; exact pot_free (q := q) i1 h0 (by omega)
                have e5 : decide (0 < IntKind.i64.wrap (g + 1)) = true := by rw [wi _ (by omega) (by omega)]; exact decide_eq_true (by omega)
                (conv => arg 1; whnf); (repeat' (first | (refine brt (by assumption) ?_; (conv => arg 1; whnf)) | (refine brf (by assumption) ?_; (conv => arg 1; whnf)) | fail))
                refine again ⟨n + 1, v, g, next + 1, d.step s false false⟩ [0, 1] ?_ ?_ (by decide) ?_ ?_ ?_
                · refine ⟨hsr _, ?_, ?_, ?_, ?_, ?_, ?_, ?_, ?_⟩
                  · show 0 ≤ n + 1
                    omega
                  · show n + 1 + (d.step s false false).pot s q (v) ≤ _
                    omega
                  · show 0 ≤ v
                    omega
                  · show v ≤ _
                    omega
                  · show 0 ≤ g
                    omega
                  · show g ≤ 4
                    omega
                  · show next + 1 ≤ l.length
                    omega
                  · intro h; rw [step_he _ _ _ h0] at h; simp at h; omega
                · show ((d.step s false false).pot s q (v)).toNat < (d.pot s q 0).toNat
                  omega
                · repeat' (first | exact True.intro | exact Fit.dead _ | exact Fit.v _ | exact .i fun _ _ => rfl | exact Fit.ip | exact .p rfl | exact .q rfl | exact .s rfl | exact .y rfl | refine Fit.al ?_ | refine Fit.fl ?_ ?_ | refine And.intro ?_ ?_)
                  · exact Fit.v' (congrArg (Value.int .i64) (show n + 1 = IntKind.i64.wrap (n + 1) by rw [wi _ (by omega) (by omega)]))
                  · exact Fit.v' (congrArg (Value.int .i64) (show g = IntKind.i64.wrap (IntKind.i64.wrap (g + 1) - 1) by rw [wi (g + 1) (by omega) (by omega), wi _ (by omega) (by omega)]; omega))
                  · exact Fit.v' (congrArg (Value.int .i64) (show ((next + 1 : Nat) : Int) = IntKind.i64.wrap ((next : Int) + 1) by rw [wi _ (by omega) (by omega)]; omega))
                · refine ⟨⟨_, rfl, .lit (by repeat' (first | exact True.intro | exact Fit.dead _ | exact Fit.v _ | exact .i fun _ _ => rfl | exact Fit.ip | exact .p rfl | exact .q rfl | exact .s rfl | exact .y rfl | refine Fit.al ?_ | refine Fit.fl ?_ ?_ | refine And.intro ?_ ?_))⟩, ⟨_, rfl, .lit ?_⟩, trivial⟩
                  show FitL [0, 1] _ _ [i64 (d.step s false (decide (0 < v))).ph, i64 (d.step s false (decide (0 < v))).le, i64 (d.step s false (decide (0 < v))).ru, boo (d.step s false (decide (0 < v))).he]
                  rw [hv]; repeat' (first | exact True.intro | exact Fit.dead _ | exact Fit.v _ | exact .i fun _ _ => rfl | exact Fit.ip | exact .p rfl | exact .q rfl | exact .s rfl | exact .y rfl | refine Fit.al ?_ | refine Fit.fl ?_ ?_ | refine And.intro ?_ ?_)
                · rfl
            · by_cases hv : 0 < left
              · have e2 : decide (left = 0) = false := decide_eq_false (by omega)
                have hgp := i9 (.inr hv)
                have hp := pot_held i1 h0 hv (by omega : s.op + s.wa + s.cl + left ≤ q)
                have hpi : (if d.he = true ∧ 0 < left then s.op + s.wa + s.cl + left else d.rem s) = (if d.he = true then s.op + s.wa + s.cl + left else d.rem s) := by simp [hv]
                rw [hpi] at hpe
                have hv := decide_eq_true hv
                (conv => arg 1; whnf); (repeat' (first | (refine brt (by assumption) ?_; (conv => arg 1; whnf)) | (refine brf (by assumption) ?_; (conv => arg 1; whnf)) | fail))
                refine again ⟨n + 1, left - 1, gap, next, d.step s false true⟩ [0, 1] ?_ ?_ (by decide) ?_ ?_ ?_
                · refine ⟨hsr _, ?_, ?_, ?_, ?_, ?_, ?_, ?_, ?_⟩
                  · show 0 ≤ n + 1
                    omega
                  · show n + 1 + (d.step s false true).pot s q (left - 1) ≤ _
                    omega
                  · show 0 ≤ left - 1
                    omega
                  · show left - 1 ≤ _
                    omega
                  · show 0 ≤ gap
                    omega
                  · show gap ≤ 4
                    omega
                  · show next ≤ l.length
                    omega
                  · exact fun _ => (show 0 < gap by omega)
                · show ((d.step s false true).pot s q (left - 1)).toNat < (d.pot s q left).toNat
                  omega
                · repeat' (first | exact True.intro | exact Fit.dead _ | exact Fit.v _ | exact .i fun _ _ => rfl | exact Fit.ip | exact .p rfl | exact .q rfl | exact .s rfl | exact .y rfl | refine Fit.al ?_ | refine Fit.fl ?_ ?_ | refine And.intro ?_ ?_)
                  · exact Fit.v' (congrArg (Value.int .i64) (show n + 1 = IntKind.i64.wrap (n + 1) by rw [wi _ (by omega) (by omega)]))
                  · exact Fit.v' (congrArg (Value.int .i64) (show left - 1 = IntKind.i64.wrap (left - 1) by rw [wi _ (by omega) (by omega)]))
                · refine ⟨⟨_, rfl, .lit (by repeat' (first | exact True.intro | exact Fit.dead _ | exact Fit.v _ | exact .i fun _ _ => rfl | exact Fit.ip | exact .p rfl | exact .q rfl | exact .s rfl | exact .y rfl | refine Fit.al ?_ | refine Fit.fl ?_ ?_ | refine And.intro ?_ ?_))⟩, ⟨_, rfl, .lit ?_⟩, trivial⟩
                  show FitL [0, 1] _ _ [i64 (d.step s false (decide (0 < left))).ph, i64 (d.step s false (decide (0 < left))).le, i64 (d.step s false (decide (0 < left))).ru, boo (d.step s false (decide (0 < left))).he]
                  rw [hv]; repeat' (first | exact True.intro | exact Fit.dead _ | exact Fit.v _ | exact .i fun _ _ => rfl | exact Fit.ip | exact .p rfl | exact .q rfl | exact .s rfl | exact .y rfl | refine Fit.al ?_ | refine Fit.fl ?_ ?_ | refine And.intro ?_ ?_)
                · rfl
              · have hl0 : left = 0 := by omega
                have hp : (d.step s false false).pot s q left + 1 ≤ (s.nu - d.ru) * q + d.rem s := by rw [hl0]; exact pot_free (q := q) i1 h0 (by omega)
                rw [if_neg (by omega)] at hpe
                have e2 : decide (left = 0) = true := decide_eq_true hl0
                have hv := decide_eq_false hv
                by_cases hgp : 0 < gap
                · have e3 : decide (gap = 0) = false := decide_eq_false (by omega)
                  have e5 : decide (0 < gap) = true := decide_eq_true (by omega)
                  (conv => arg 1; whnf); (repeat' (first | (refine brt (by assumption) ?_; (conv => arg 1; whnf)) | (refine brf (by assumption) ?_; (conv => arg 1; whnf)) | fail))
                  refine again ⟨n + 1, left, gap - 1, next, d.step s false false⟩ [0, 1] ?_ ?_ (by decide) ?_ ?_ ?_
                  · refine ⟨hsr _, ?_, ?_, ?_, ?_, ?_, ?_, ?_, ?_⟩
                    · show 0 ≤ n + 1
                      omega
                    · show n + 1 + (d.step s false false).pot s q (left) ≤ _
                      omega
                    · show 0 ≤ left
                      omega
                    · show left ≤ _
                      omega
                    · show 0 ≤ gap - 1
                      omega
                    · show gap - 1 ≤ 4
                      omega
                    · show next ≤ l.length
                      omega
                    · intro h; rw [step_he _ _ _ h0] at h; simp at h; omega
                  · show ((d.step s false false).pot s q (left)).toNat < (d.pot s q left).toNat
                    omega
                  · repeat' (first | exact True.intro | exact Fit.dead _ | exact Fit.v _ | exact .i fun _ _ => rfl | exact Fit.ip | exact .p rfl | exact .q rfl | exact .s rfl | exact .y rfl | refine Fit.al ?_ | refine Fit.fl ?_ ?_ | refine And.intro ?_ ?_)
                    · exact Fit.v' (congrArg (Value.int .i64) (show n + 1 = IntKind.i64.wrap (n + 1) by rw [wi _ (by omega) (by omega)]))
                    · exact Fit.v' (congrArg (Value.int .i64) (show gap - 1 = IntKind.i64.wrap (gap - 1) by rw [wi _ (by omega) (by omega)]))
                  · refine ⟨⟨_, rfl, .lit (by repeat' (first | exact True.intro | exact Fit.dead _ | exact Fit.v _ | exact .i fun _ _ => rfl | exact Fit.ip | exact .p rfl | exact .q rfl | exact .s rfl | exact .y rfl | refine Fit.al ?_ | refine Fit.fl ?_ ?_ | refine And.intro ?_ ?_))⟩, ⟨_, rfl, .lit ?_⟩, trivial⟩
                    show FitL [0, 1] _ _ [i64 (d.step s false (decide (0 < left))).ph, i64 (d.step s false (decide (0 < left))).le, i64 (d.step s false (decide (0 < left))).ru, boo (d.step s false (decide (0 < left))).he]
                    rw [hv]; repeat' (first | exact True.intro | exact Fit.dead _ | exact Fit.v _ | exact .i fun _ _ => rfl | exact Fit.ip | exact .p rfl | exact .q rfl | exact .s rfl | exact .y rfl | refine Fit.al ?_ | refine Fit.fl ?_ ?_ | refine And.intro ?_ ?_)
                  · rfl

                · have e3 : decide (gap = 0) = true := decide_eq_true (by omega)
                  have e5 : decide (0 < gap) = false := decide_eq_false (by omega)
                  have e6 : decide ((next : Int) < l.length) = false := decide_eq_false (by omega)
                  (conv => arg 1; whnf); (repeat' (first | (refine brt (by assumption) ?_; (conv => arg 1; whnf)) | (refine brf (by assumption) ?_; (conv => arg 1; whnf)) | fail))
                  refine again ⟨n + 1, left, gap, next, d.step s false false⟩ [0, 1] ?_ ?_ (by decide) ?_ ?_ ?_
                  · refine ⟨hsr _, ?_, ?_, ?_, ?_, ?_, ?_, ?_, ?_⟩
                    · show 0 ≤ n + 1
                      omega
                    · show n + 1 + (d.step s false false).pot s q (left) ≤ _
                      omega
                    · show 0 ≤ left
                      omega
                    · show left ≤ _
                      omega
                    · show 0 ≤ gap
                      omega
                    · show gap ≤ 4
                      omega
                    · show next ≤ l.length
                      omega
                    · intro h; rw [step_he _ _ _ h0] at h; simp at h; omega
                  · show ((d.step s false false).pot s q (left)).toNat < (d.pot s q left).toNat
                    omega
                  · repeat' (first | exact True.intro | exact Fit.dead _ | exact Fit.v _ | exact .i fun _ _ => rfl | exact Fit.ip | exact .p rfl | exact .q rfl | exact .s rfl | exact .y rfl | refine Fit.al ?_ | refine Fit.fl ?_ ?_ | refine And.intro ?_ ?_)
                    · exact Fit.v' (congrArg (Value.int .i64) (show n + 1 = IntKind.i64.wrap (n + 1) by rw [wi _ (by omega) (by omega)]))
                  · refine ⟨⟨_, rfl, .lit (by repeat' (first | exact True.intro | exact Fit.dead _ | exact Fit.v _ | exact .i fun _ _ => rfl | exact Fit.ip | exact .p rfl | exact .q rfl | exact .s rfl | exact .y rfl | refine Fit.al ?_ | refine Fit.fl ?_ ?_ | refine And.intro ?_ ?_))⟩, ⟨_, rfl, .lit ?_⟩, trivial⟩
                    show FitL [0, 1] _ _ [i64 (d.step s false (decide (0 < left))).ph, i64 (d.step s false (decide (0 < left))).le, i64 (d.step s false (decide (0 < left))).ru, boo (d.step s false (decide (0 < left))).he]
                    rw [hv]; repeat' (first | exact True.intro | exact Fit.dead _ | exact Fit.v _ | exact .i fun _ _ => rfl | exact Fit.ip | exact .p rfl | exact .q rfl | exact .s rfl | exact .y rfl | refine Fit.al ?_ | refine Fit.fl ?_ ?_ | refine And.intro ?_ ?_)
                  · rfl
          · have h0 : d.ph = 0 := by simpa using h
            (conv => arg 1; whnf)
            refine leave ?_
            show tr _
            (conv => arg 1; whnf); (repeat' (first | (refine brt (by assumption) ?_; (conv => arg 1; whnf)) | (refine brf (by assumption) ?_; (conv => arg 1; whnf)) | fail))
            have hd : d.le = 0 ∧ d.ru = 0 ∧ d.he = false := (Door.right_bd i1).2.2.2.1 h0
            refine finB ?_
            show true = (decide (d.ph = 0) && (decide (d.le = 0) && (decide (d.ru = 0) && d.he == false)))
            rw [h0, hd.1, hd.2.1, hd.2.2]; rfl
end Go.Proofs.Ytohgniddfpjjfaa.E
