/- The law of doors in which nobody stands, by the engine. -/
import Derived.Test.YtohgniddfpjjfaaDoorLawsE
namespace Go.Proofs.Ytohgniddfpjjfaa.E
open Go
set_option linter.unusedSimpArgs false
set_option maxRecDepth 100000
set_option maxHeartbeats 4000000

/-- A door that nobody holds, so many ticks behind its beginning. -/
def freeAt (s : Site) (k : Nat) : Door :=
  if (k : Int) < s.op then ⟨1, s.op - k, 0, false⟩ else if (k : Int) < s.op + s.wa then ⟨2, s.op + s.wa - k, 0, false⟩ else if (k : Int) < s.op + s.wa + s.cl then ⟨3, s.op + s.wa + s.cl - k, 0, false⟩ else ⟨0, 0, 0, false⟩
/-- How many of the first k ticks were of a phase. -/
def cnt (lo n : Int) (k : Nat) : Int := if (k : Int) < lo then 0 else if (k : Int) < lo + n then k - lo else n
theorem free_step {s : Site} (hs : s.right = true) (k : Nat) (o : Bool) (hk : (k : Int) < s.op + s.wa + s.cl) : (freeAt s k).step s o false = freeAt s (k + 1) := by
  have hb := Site.right_bd hs
  have c : ((k + 1 : Nat) : Int) = (k : Int) + 1 := by omega
  unfold freeAt
  rw [c]
  by_cases h1 : (k : Int) < s.op
  · rw [if_pos h1]
    by_cases h2 : (k : Int) + 1 < s.op
    · rw [if_pos h2]
      simp only [Door.step, Door.hold, Bool.false_eq_true, if_false, Bool.false_and]
      rw [if_neg (by decide), if_pos (by omega)]
      congr 1; omega
    · rw [if_neg h2, if_pos (by omega)]
      simp only [Door.step, Door.hold, Bool.false_eq_true, if_false, Bool.false_and]
      rw [if_neg (by decide), if_neg (by omega)]
      have e : ((1 : Int) + 1).tmod 4 = 2 := by decide
      rw [e]
      simp only [Door.enter, Site.tk]
      simp only [show ¬ (2 : Int) = 0 by decide, show ¬ (2 : Int) = 1 by decide, if_false, if_true]
      congr 1; omega
  · rw [if_neg h1, if_neg (by omega : ¬ (k : Int) + 1 < s.op)]
    by_cases h2 : (k : Int) < s.op + s.wa
    · rw [if_pos h2]
      by_cases h3 : (k : Int) + 1 < s.op + s.wa
      · rw [if_pos h3]
        simp only [Door.step, Door.hold, Bool.false_eq_true, if_false, Bool.false_and]
        rw [if_neg (by decide), if_pos (by omega)]
        congr 1; omega
      · rw [if_neg h3, if_pos (by omega)]
        simp only [Door.step, Door.hold, Bool.false_eq_true, if_false, Bool.false_and]
        rw [if_neg (by decide), if_neg (by omega)]
        have e : ((2 : Int) + 1).tmod 4 = 3 := by decide
        rw [e]
        simp only [Door.enter, Site.tk]
        simp only [show ¬ (3 : Int) = 0 by decide, show ¬ (3 : Int) = 1 by decide, show ¬ (3 : Int) = 2 by decide, if_false, if_true]
        congr 1; omega
    · rw [if_neg h2, if_neg (by omega : ¬ (k : Int) + 1 < s.op + s.wa), if_pos hk]
      by_cases h3 : (k : Int) + 1 < s.op + s.wa + s.cl
      · rw [if_pos h3]
        simp only [Door.step, Door.hold, Bool.false_eq_true, if_false, Bool.false_and]
        rw [if_neg (by decide), if_pos (by omega)]
        congr 1; omega
      · rw [if_neg h3]
        simp only [Door.step, Door.hold, Bool.false_eq_true, if_false, Bool.false_and]
        rw [if_neg (by decide), if_neg (by omega)]
        have e : ((3 : Int) + 1).tmod 4 = 0 := by decide
        rw [e]
        simp only [Door.enter, if_true]
def cntAt (s : Site) (k j : Nat) : Int := if j = 1 then cnt 0 s.op k else if j = 2 then cnt s.op s.wa k else if j = 3 then cnt (s.op + s.wa) s.cl k else 0
theorem cnt_zero {s : Site} (hs : s.right = true) (j : Nat) : cntAt s 0 j = 0 := by
  have hb := Site.right_bd hs
  unfold cntAt cnt
  (repeat' split) <;> omega
theorem free_facts {s : Site} (hs : s.right = true) (k : Nat) : (freeAt s k).ru = 0 ∧ (freeAt s k).he = false ∧ 0 ≤ (freeAt s k).ph ∧ (freeAt s k).ph ≤ 3 ∧ 0 ≤ (freeAt s k).le ∧ (freeAt s k).le ≤ 3000 ∧ ((freeAt s k).ph = 0 ↔ s.op + s.wa + s.cl ≤ k) := by
  have hb := Site.right_bd hs
  unfold freeAt
  (repeat' split) <;> simp <;> omega
theorem cnt_step {s : Site} (hs : s.right = true) (k j : Nat) (hk : (k : Int) < s.op + s.wa + s.cl) : cntAt s (k + 1) j = if j = (freeAt s k).ph.toNat then cntAt s k j + 1 else cntAt s k j := by
  have hb := Site.right_bd hs
  have c : ((k + 1 : Nat) : Int) = (k : Int) + 1 := by omega
  unfold cntAt cnt freeAt
  rw [c]
  by_cases h1 : (k : Int) < s.op
  · simp only [h1, if_true, show ((1 : Int)).toNat = 1 by decide]
    (repeat' split) <;> omega
  · by_cases h2 : (k : Int) < s.op + s.wa
    · simp only [h1, h2, if_true, if_false, show ((2 : Int)).toNat = 2 by decide]
      (repeat' split) <;> omega
    · simp only [h1, h2, hk, if_true, if_false, show ((3 : Int)).toNat = 3 by decide]
      (repeat' split) <;> omega
theorem cnt_end {s : Site} (hs : s.right = true) (k : Nat) (hk : (k : Int) = s.op + s.wa + s.cl) : cntAt s k 0 = 0 ∧ cntAt s k 1 = s.op ∧ cntAt s k 2 = s.wa ∧ cntAt s k 3 = s.cl := by
  have hb := Site.right_bd hs
  unfold cntAt cnt
  refine ⟨?_, ?_, ?_, ?_⟩ <;> simp <;> (repeat' split) <;> omega
theorem cnt_bd {s : Site} (hs : s.right = true) (k j : Nat) : 0 ≤ cntAt s k j ∧ cntAt s k j ≤ 1000 := by
  have hb := Site.right_bd hs
  unfold cntAt cnt
  (repeat' split) <;> omega
theorem bools_arg {u : AV} (h : isArg tt 39 u) : ∃ (l : List Bool) (g : Nat → List AV), u = .i 1 l.length g ∧ IsRow eB (.i 1 l.length g) l := by
  obtain ⟨m, g, e, hm, hg⟩ := h
  obtain rfl := (List.cons.inj e).1
  obtain ⟨l, rfl, h1, h2⟩ := row_of eB (m := m) (g := g) (p := fun x => True) (fun k hk => by obtain ⟨z, hz⟩ := hg k hk; exact ⟨z, hz, trivial⟩) (by have : m * 1 < 281474976710656 := hm; omega)
  exact ⟨l, g, rfl, h1⟩
abbrev siteB (s : Site) : Blk := .lit [i64 s.fl, i64 s.ca, i64 s.st, i64 s.sp, i64 s.so, i64 s.op, i64 s.wa, i64 s.cl, i64 s.nu, i64 s.ag, i64 s.si, i64 s.bu, i64 s.pe]
abbrev doorB (d : Door) : Blk := .lit [i64 d.ph, i64 d.le, i64 d.ru, boo d.he]
theorem DoorFree (us : List AV) (h : areArgs tt [32, 39] us) : runF XDL Try.f7 us [] (boo true) [] := by
  obtain ⟨_, _, rfl, hs, _, _, rfl, hl, rfl⟩ := h
  obtain ⟨s, rfl⟩ := site_arg hs
  obtain ⟨l, g, rfl, hl1⟩ := bools_arg hl
  clear hs hl
  have hlen := hl1.len
  unfold runF
  (conv => arg 1; whnf)
  refine br (fun h => ?_) (fun h => ?_)
  · (conv => arg 1; whnf); (repeat' (first | (refine brt (by assumption) ?_; (conv => arg 1; whnf)) | (refine brf (by assumption) ?_; (conv => arg 1; whnf)) | fail))
    exact finB rfl
  · (conv => arg 1; whnf); (repeat' (first | (refine brt (by assumption) ?_; (conv => arg 1; whnf)) | (refine brf (by assumption) ?_; (conv => arg 1; whnf)) | fail))
    have hr : s.right = true := by simpa using h
    have hb := Site.right_bd hr
    refine br (fun h => ?_) (fun h => ?_)
    · (conv => arg 1; whnf); (repeat' (first | (refine brt (by assumption) ?_; (conv => arg 1; whnf)) | (refine brf (by assumption) ?_; (conv => arg 1; whnf)) | fail))
      exact finB rfl
    · have h100 := of_decide_eq_false h
      (conv => arg 1; whnf); (repeat' (first | (refine brt (by assumption) ?_; (conv => arg 1; whnf)) | (refine brf (by assumption) ?_; (conv => arg 1; whnf)) | fail))
      have w1 : IntKind.i64.wrap (s.op + s.wa) = s.op + s.wa := wi _ (by omega) (by omega)
      have w2 : IntKind.i64.wrap (IntKind.i64.wrap (s.op + s.wa) + s.cl) = s.op + s.wa + s.cl := by rw [w1, wi _ (by omega) (by omega)]
      refine br (fun h => ?_) (fun h => ?_)
      · (conv => arg 1; whnf); (repeat' (first | (refine brt (by assumption) ?_; (conv => arg 1; whnf)) | (refine brf (by assumption) ?_; (conv => arg 1; whnf)) | fail))
        exact finB rfl
      · have h200 := of_decide_eq_false h
        rw [w2] at h200
        (conv => arg 1; whnf); (repeat' (first | (refine brt (by assumption) ?_; (conv => arg 1; whnf)) | (refine brf (by assumption) ?_; (conv => arg 1; whnf)) | fail))
        have hf0 : Door.step s ⟨0, 0, 0, false⟩ true false = freeAt s 0 := by
          unfold freeAt
          rw [if_pos (by omega)]
          simp [Door.step, Door.enter, Site.tk]
        refine loopIn (fun k : Nat => (k : Int) ≤ s.op + s.wa + s.cl) (fun k => frm 94 [(1, row eB l), (2, .p 0 0), (5, .p 1 0), (6, .p 2 0), (7, i64 k)])
          (fun k => [siteB s, doorB (freeAt s k), .tab 1 4 fun j => [i64 (cntAt s k j)]])
          (fun k => (s.op + s.wa + s.cl).toNat - k) 0 [0, 1, 2] (by omega) (by decide) ?_ ?_ rfl fun k hi => ?_
        · repeat' (first | exact True.intro | exact Fit.dead _ | exact Fit.v _ | exact hl1.fit _ _ | exact .p rfl | refine And.intro ?_ ?_)
        · refine ⟨⟨_, rfl, .lit (by repeat' (first | exact True.intro | exact Fit.dead _ | exact Fit.v _ | exact .i fun _ _ => rfl | exact Fit.ip | exact .p rfl | exact .q rfl | exact .s rfl | exact .y rfl | refine Fit.al ?_ | refine Fit.fl ?_ ?_ | refine And.intro ?_ ?_))⟩, ⟨_, rfl, .lit ?_⟩, ⟨_, rfl, ?_⟩, trivial⟩
          · rw [← hf0]; repeat' (first | exact True.intro | exact Fit.dead _ | exact Fit.v _ | exact .i fun _ _ => rfl | exact Fit.ip | exact .p rfl | exact .q rfl | exact .s rfl | exact .y rfl | refine Fit.al ?_ | refine Fit.fl ?_ ?_ | refine And.intro ?_ ?_)
          · refine .tab fun j hj => ?_
            rw [cnt_zero hr]
            have : j = 0 ∨ j = 1 ∨ j = 2 ∨ j = 3 := by omega
            rcases this with rfl | rfl | rfl | rfl <;> rfl
        · obtain ⟨q1, q2, q3, q4, q5, q6, q7⟩ := free_facts hr k
          (conv => arg 1; whnf)
          refine br (fun h => ?_) (fun h => ?_)
          · have hk : (k : Int) < s.op + s.wa + s.cl := by
              simp only [Bool.not_eq_true', decide_eq_false_iff_not] at h
              rw [q7] at h; omega
            have f1 : (!decide ((freeAt s k).ru = 0)) = false := by rw [q1]; rfl
            have f3 : decide ((700 : Int) < k) = false := decide_eq_false (by omega)
            have f4 : decide ((freeAt s k).ph < 0) = false := decide_eq_false (by omega)
            have f5 : decide ((3 : Int) < (freeAt s k).ph) = false := decide_eq_false (by omega)
            have g0 : (decide (0 ≤ (freeAt s k).ph) && decide ((freeAt s k).ph < ((4 : Nat) : Int))) = true := by simp only [Bool.and_eq_true, decide_eq_true_eq]; omega
            have g1 : decide ((freeAt s k).ph.toNat < 4) = true := decide_eq_true (by omega)
            have g2 : (smallN (freeAt s k).ph && smallN (freeAt s k).le && smallN (freeAt s k).ru) = true := by unfold smallN; simp only [Bool.and_eq_true, decide_eq_true_eq]; omega
            (conv => arg 1; whnf); (repeat' (first | (refine brt (by assumption) ?_; (conv => arg 1; whnf)) | (refine brf (by assumption) ?_; (conv => arg 1; whnf)) | fail))
            refine br (fun h => ?_) (fun h => ?_)
            · have hl0 := of_decide_eq_true h
              have hp : 0 ≤ (k : Int).tmod l.length ∧ (k : Int).tmod l.length < l.length := by
                rw [Int.tmod_eq_emod_of_nonneg (by omega)]
                have := Int.emod_nonneg (k : Int) (by omega : (l.length : Int) ≠ 0)
                have := Int.emod_lt_of_pos (k : Int) (by omega : (0 : Int) < l.length)
                omega
              have hw : IntKind.i64.wrap ((k : Int).tmod l.length) = (k : Int).tmod l.length := wi _ (by omega) (by omega)
              have e1 : (!decide ((l.length : Int) = 0)) = true := by rw [decide_eq_false (by omega)]; rfl
              have e2 : (decide (0 ≤ (k : Int).tmod l.length) && decide ((k : Int).tmod l.length < l.length)) = true := by simp only [Bool.and_eq_true, decide_eq_true_eq]; exact hp
              (conv => arg 1; whnf); (repeat' (first | (refine brt (by assumption) ?_; (conv => arg 1; whnf)) | (refine brf (by assumption) ?_; (conv => arg 1; whnf)) | fail))
              refine again (k + 1) [0, 1, 2] ?_ ?_ (by decide) ?_ ?_ ?_
              · show ((k + 1 : Nat) : Int) ≤ s.op + s.wa + s.cl
                omega
              · show (s.op + s.wa + s.cl).toNat - (k + 1) < (s.op + s.wa + s.cl).toNat - k
                omega
              · repeat' (first | exact True.intro | exact Fit.dead _ | exact Fit.v _ | exact .i fun _ _ => rfl | exact Fit.ip | exact .p rfl | exact .q rfl | exact .s rfl | exact .y rfl | refine Fit.al ?_ | refine Fit.fl ?_ ?_ | refine And.intro ?_ ?_)
                exact Fit.v' (congrArg (Value.int .i64) (by rw [wi _ (by omega) (by omega)]; omega))
              · refine ⟨⟨_, rfl, .lit (by repeat' (first | exact True.intro | exact Fit.dead _ | exact Fit.v _ | exact .i fun _ _ => rfl | exact Fit.ip | exact .p rfl | exact .q rfl | exact .s rfl | exact .y rfl | refine Fit.al ?_ | refine Fit.fl ?_ ?_ | refine And.intro ?_ ?_))⟩, ⟨_, rfl, .lit ⟨.v' (congrArg (Value.int .i64) ?_), .v' (congrArg (Value.int .i64) ?_), .v' (congrArg (Value.int .i64) ?_), .v' (congrArg Value.bool ?_), trivial⟩⟩, ⟨_, rfl, .tab fun j hj => ?_⟩, trivial⟩
                · rw [← free_step hr k _ hk]
                · rw [← free_step hr k _ hk]
                · rw [← free_step hr k _ hk]
                · rw [← free_step hr k _ hk]
                · rw [cnt_step hr k j hk]
                  have hb1 := cnt_bd hr k j
                  by_cases hj' : j = (freeAt s k).ph.toNat
                  · subst hj'
                    rw [if_pos rfl, if_pos rfl]
                    exact congrArg (fun x => [i64 x]) (wi _ (by omega) (by omega)).symm
                  · rw [if_neg hj', if_neg hj']
              · rfl
            · (conv => arg 1; whnf); (repeat' (first | (refine brt (by assumption) ?_; (conv => arg 1; whnf)) | (refine brf (by assumption) ?_; (conv => arg 1; whnf)) | fail))
              refine again (k + 1) [0, 1, 2] ?_ ?_ (by decide) ?_ ?_ ?_
              · show ((k + 1 : Nat) : Int) ≤ s.op + s.wa + s.cl
                omega
              · show (s.op + s.wa + s.cl).toNat - (k + 1) < (s.op + s.wa + s.cl).toNat - k
                omega
              · repeat' (first | exact True.intro | exact Fit.dead _ | exact Fit.v _ | exact .i fun _ _ => rfl | exact Fit.ip | exact .p rfl | exact .q rfl | exact .s rfl | exact .y rfl | refine Fit.al ?_ | refine Fit.fl ?_ ?_ | refine And.intro ?_ ?_)
                exact Fit.v' (congrArg (Value.int .i64) (by rw [wi _ (by omega) (by omega)]; omega))
              · refine ⟨⟨_, rfl, .lit (by repeat' (first | exact True.intro | exact Fit.dead _ | exact Fit.v _ | exact .i fun _ _ => rfl | exact Fit.ip | exact .p rfl | exact .q rfl | exact .s rfl | exact .y rfl | refine Fit.al ?_ | refine Fit.fl ?_ ?_ | refine And.intro ?_ ?_))⟩, ⟨_, rfl, .lit ⟨.v' (congrArg (Value.int .i64) ?_), .v' (congrArg (Value.int .i64) ?_), .v' (congrArg (Value.int .i64) ?_), .v' (congrArg Value.bool ?_), trivial⟩⟩, ⟨_, rfl, .tab fun j hj => ?_⟩, trivial⟩
                · rw [← free_step hr k _ hk]
                · rw [← free_step hr k _ hk]
                · rw [← free_step hr k _ hk]
                · rw [← free_step hr k _ hk]
                · rw [cnt_step hr k j hk]
                  have hb1 := cnt_bd hr k j
                  by_cases hj' : j = (freeAt s k).ph.toNat
                  · subst hj'
                    rw [if_pos rfl, if_pos rfl]
                    exact congrArg (fun x => [i64 x]) (wi _ (by omega) (by omega)).symm
                  · rw [if_neg hj', if_neg hj']
              · rfl
          · have hk : (k : Int) = s.op + s.wa + s.cl := by
              simp only [Bool.not_eq_false', decide_eq_true_eq] at h
              rw [q7] at h; omega
            obtain ⟨c0, c1, c2, c3⟩ := cnt_end hr k hk
            have hd : freeAt s k = ⟨0, 0, 0, false⟩ := by unfold freeAt; rw [if_neg (by omega), if_neg (by omega), if_neg (by omega)]
            have g0 : (decide (cntAt s k 0 = 0) && (decide (cntAt s k 1 = s.op) && (decide (cntAt s k 2 = s.wa) && decide (cntAt s k 3 = s.cl)))) = true := by
              rw [c0, c1, c2, c3]; simp
            have g1 : (decide ((freeAt s k).ph = 0) && (decide ((freeAt s k).le = 0) && (decide ((freeAt s k).ru = 0) && decide ((freeAt s k).he = false)))) = true := by
              rw [hd]; rfl
            (conv => arg 1; whnf)
            refine leave ?_
            show tr _
            (conv => arg 1; whnf); (repeat' (first | (refine brt (by assumption) ?_; (conv => arg 1; whnf)) | (refine brf (by assumption) ?_; (conv => arg 1; whnf)) | fail))
            exact finB (by rw [hd]; rfl)
end Go.Proofs.Ytohgniddfpjjfaa.E
