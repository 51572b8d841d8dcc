/- bound.Least. -/
import Derived.Test.YtglpeibbkkikgaaBoundSumE
namespace Go.Proofs.Ytglpeibbkkikgaa.E
open Go NumMath
set_option linter.unusedSimpArgs false
set_option linter.unusedVariables false
set_option maxRecDepth 100000
set_option maxHeartbeats 8000000
def leastR2 (p : Snap) (car : Int) (pl : List (List Int)) : Int × Int := cond (begOk p car pl) (rleast p car.toNat pl (leftL p.ws.length (ents 0 pl)) (costS p pl (car.toNat + 1) 0), 0) (0, 9)
def leastG : List AV → Option (Bool × AV × St) := ad3 adSnap adI (adRR eI) fun p car pl => some (pl.all fun l => decide (l.length ≤ 900), .t [i64 (leastR2 p car pl).1, i64 (leastR2 p car pl).2], [])
theorem leastR2_no {p : Snap} {car : Int} {pl : List (List Int)} (h : begOk p car pl = false) : leastR2 p car pl = (0, 9) := by unfold leastR2; rw [h]; rfl
def eSt : Elt Stp := ⟨3, fun u => match u with | [.v (.int .i64 a), .v (.int .i64 b), .v (.int .i64 c)] => some ⟨a, b, c⟩ | _ => none, fun a => [i64 a.fl, i64 a.he, i64 a.lv], ⟨0, 0, 0⟩, fun {u a} h => (by split at h <;> first | (obtain rfl := Option.some.inj h; rfl) | cases h), fun _ => rfl⟩
def endsL (p : Snap) (pl : List (List Int)) (c : Nat) : List Stp := (List.range c).map fun c' => stAt p c' (pl.getD c' []) (pl.getD c' []).length
theorem endsL_len (p : Snap) (pl : List (List Int)) (c : Nat) : (endsL p pl c).length = c := by simp [endsL]
theorem endsL_succ (p : Snap) (pl : List (List Int)) (c : Nat) : endsL p pl (c + 1) = endsL p pl c ++ [stAt p c (pl.getD c []) (pl.getD c []).length] := by simp [endsL, List.range_succ]
/-- A beginning, as it stands in memory. -/
abbrev partC (p : Snap) (car : Int) (ends : AV) (cost : Int) : List AV := [i64 p.s.fl, i64 p.s.ca, i64 p.s.st, i64 p.s.sp, i64 p.s.so, i64 p.s.op, i64 p.s.wa, i64 p.s.cl, i64 p.s.nu, i64 p.s.ag, i64 p.s.si, i64 p.s.bu, i64 p.s.pe, row eRd p.cs, row eWn p.ws, i64 car, ends, .mp 2, i64 cost]
theorem min_mm (a b : Int) : min a b = mm false a b := by show min a b = if b < a then b else a; split <;> omega
theorem least_ok : CtrOk Try.prog 31 (freshCtr leastG) :=
  freshCtr_ok XB2_ok Try.func31 (by decide) rfl fun args u σn h => by
    obtain ⟨p, car, pl, hf, ⟨hp1, hp2⟩, _, ⟨hp3, hp4⟩, hv⟩ := ad3_some h
    simp only [Option.some.injEq, Prod.mk.injEq] at hv
    obtain ⟨hls, rfl, rfl⟩ := hv
    refine ⟨plainNil, _, hf, ?_⟩
    clear h hf
    have hls : ∀ l ∈ pl, l.length ≤ 900 := fun l hl => of_decide_eq_true (List.all_eq_true.1 hls l hl)
    unfold runF
    (conv => arg 1; whnf)
    (refine brt ?_ ?_; (focus (exact and2 rfl (and2 rfl (snapRows hp1 hp2)); done)); (conv => arg 1; whnf))
    refine br (fun h1 => ?_) (fun h1 => ?_)
    · have h1' : (!p.rd.right) = true := h1
      rw [p.rd_eq] at h1'
      have hr : p.right = false := by simpa using h1'
      (conv => arg 1; whnf); (repeat' (first | (refine brt (by assumption) ?_; (conv => arg 1; whnf)) | (refine brf (by assumption) ?_; (conv => arg 1; whnf)) | fail))
      rw [leastR2_no (beg_no1 fun h => by rw [h.1] at hr; cases hr)]
      exact finS [] (by decide) (Fit.tl ⟨.v _, .v _, trivial⟩) trivial rfl
    have h1' : (!p.rd.right) = false := h1
    rw [p.rd_eq] at h1'
    have hr : p.right = true := by simpa using h1'
    obtain ⟨b1, b2, b3, b4, b5⟩ := Snap.right_bd hr
    have hb := Site.right_bd b1
    (conv => arg 1; whnf); (repeat' (first | (refine brt (by assumption) ?_; (conv => arg 1; whnf)) | (refine brf (by assumption) ?_; (conv => arg 1; whnf)) | fail))
    refine br (fun h2 => ?_) (fun h2 => ?_)
    · have h2' : (!(decide ((pl.length : Int) = (p.cs.length : Int)))) = true := h2
      have hne : ¬ pl.length = p.cs.length := fun e => by rw [e] at h2'; simp at h2'
      (conv => arg 1; whnf); (repeat' (first | (refine brt (by assumption) ?_; (conv => arg 1; whnf)) | (refine brf (by assumption) ?_; (conv => arg 1; whnf)) | fail))
      rw [leastR2_no (beg_no1 fun h => hne h.2.1)]
      exact finS [] (by decide) (Fit.tl ⟨.v _, .v _, trivial⟩) trivial rfl
    have h2' : (!(decide ((pl.length : Int) = (p.cs.length : Int)))) = false := h2
    have hpl : pl.length = p.cs.length := by
      have h3 : decide ((pl.length : Int) = (p.cs.length : Int)) = true := by simpa using h2'
      have := of_decide_eq_true h3
      omega
    (conv => arg 1; whnf); (repeat' (first | (refine brt (by assumption) ?_; (conv => arg 1; whnf)) | (refine brf (by assumption) ?_; (conv => arg 1; whnf)) | fail))
    refine br (fun h3 => ?_) (fun h3 => ?_)
    · have h3' := of_decide_eq_true h3
      (conv => arg 1; whnf); (repeat' (first | (refine brt (by assumption) ?_; (conv => arg 1; whnf)) | (refine brf (by assumption) ?_; (conv => arg 1; whnf)) | fail))
      rw [leastR2_no (beg_no1 fun h => by have := h.2.2.1; omega)]
      exact finS [] (by decide) (Fit.tl ⟨.v _, .v _, trivial⟩) trivial rfl
    have h3' : ¬ car < 0 := of_decide_eq_false h3
    (conv => arg 1; whnf); (repeat' (first | (refine brt (by assumption) ?_; (conv => arg 1; whnf)) | (refine brf (by assumption) ?_; (conv => arg 1; whnf)) | fail))
    refine br (fun h4 => ?_) (fun h4 => ?_)
    · have h4' : (pl.length : Int) ≤ car := of_decide_eq_true h4
      (conv => arg 1; whnf); (repeat' (first | (refine brt (by assumption) ?_; (conv => arg 1; whnf)) | (refine brf (by assumption) ?_; (conv => arg 1; whnf)) | fail))
      rw [leastR2_no (beg_no1 fun h => by have := h.2.2.2; omega)]
      exact finS [] (by decide) (Fit.tl ⟨.v _, .v _, trivial⟩) trivial rfl
    have h4' : ¬ (pl.length : Int) ≤ car := of_decide_eq_false h4
    (conv => arg 1; whnf); (repeat' (first | (refine brt (by assumption) ?_; (conv => arg 1; whnf)) | (refine brf (by assumption) ?_; (conv => arg 1; whnf)) | fail))
    refine loopIn (fun k : Nat => k ≤ p.ws.length) (fun k => frm 129 [(1, i64 car), (2, rrow eI pl), (3, .p 1 0), (8, .p 3 0), (43, i64 p.ws.length), (44, i64 k)]) (fun k => [.lit (snapC p), .lit (snapC p), .map (mp (List.range k)) k, .lit (partC p car (.v (.slice none 0 0)) 0)]) (fun k => p.ws.length - k) 0 [0, 1, 2, 3] (Nat.zero_le _) (by decide) ?_ ?_ rfl fun k hk => ?_
    · repeat' (first | exact True.intro | exact Fit.dead _ | exact Fit.v _ | exact .i fun _ _ => rfl | exact Fit.ip | exact .p rfl | exact .q rfl | exact .s rfl | exact .y rfl | refine Fit.al ?_ | refine Fit.fl ?_ ?_ | refine And.intro ?_ ?_)
    · refine ⟨⟨_, rfl, .lit ?_⟩, ⟨_, rfl, .lit ?_⟩, ⟨_, rfl, fitMap rfl rfl⟩, ⟨_, rfl, .lit ?_⟩, trivial⟩
      all_goals (repeat' (first | exact True.intro | exact Fit.v _ | exact row_self eRd _ | exact row_self eWn _ | exact .mp rfl | refine And.intro ?_ ?_))
    have hk : k ≤ p.ws.length := hk
    (conv => arg 1; whnf)
    refine br (fun h5 => ?_) (fun h5 => ?_)
    · have hlt : k < p.ws.length := by have := of_decide_eq_true h5; omega
      (refine brt ?_ ?_; (focus (exact and2 rfl (mOk_mp _); done)); (conv => arg 1; whnf))
      have hset : mSet (.int .i64 (k : Int)) (.bool true) (mp (List.range k)) k = (mp (List.range (k + 1)), k + 1) := by rw [mSet_mp (by simp), List.range_succ]
      refine again (k + 1) [0, 1, 2, 3] (by show k + 1 ≤ p.ws.length; omega) (by show p.ws.length - (k + 1) < p.ws.length - k; omega) (by decide) ?_ ?_ rfl
      · repeat' (first | exact True.intro | exact Fit.dead _ | exact Fit.v _ | exact .p rfl | exact .i fun _ _ => rfl | exact Fit.v' (congrArg (Value.int .i64) (nxt k (by omega)).symm) | refine And.intro ?_ ?_)
      · refine ⟨⟨_, rfl, .lit ?_⟩, ⟨_, rfl, .lit ?_⟩, ⟨_, rfl, fitMap (congrArg Prod.fst hset).symm (congrArg Prod.snd hset).symm⟩, ⟨_, rfl, .lit ?_⟩, trivial⟩
        all_goals (repeat' (first | exact True.intro | exact Fit.v _ | exact row_self eRd _ | exact row_self eWn _ | exact .mp rfl | refine And.intro ?_ ?_))
    · have hkl : k = p.ws.length := by have := of_decide_eq_false h5; omega
      obtain ⟨nw, hnw⟩ : ∃ nw, nw = p.ws.length := ⟨_, rfl⟩
      (conv => arg 1; whnf); (repeat' (first | (refine brt (by assumption) ?_; (conv => arg 1; whnf)) | (refine brf (by assumption) ?_; (conv => arg 1; whnf)) | fail))
      refine leave ?_
      show tr _
      (conv => arg 1; whnf); (repeat' (first | (refine brt (by assumption) ?_; (conv => arg 1; whnf)) | (refine brf (by assumption) ?_; (conv => arg 1; whnf)) | fail))
      refine loopInC (fun c : Nat => c ≤ pl.length ∧ (pre pl c 0).all (bgood p car) = true ∧ (∀ i, i < p.ws.length → cnt (pre pl c 0) i ≤ 1) ∧ 0 ≤ costS p pl c 0 ∧ costS p pl c 0 ≤ 56100000000 * (c : Int)) (fun c => frm 129 [(1, i64 car), (3, .p 1 0), (8, .p 3 0), (53, rrow eI pl), (54, i64 pl.length), (55, i64 c)]) (fun c => [.lit (snapC p), .lit (snapC p), .map (mp (leftN p.ws.length (pre pl c 0))) p.ws.length, .lit (partC p car (.s 4 3 0 c) (costS p pl c 0)), tabl eSt (endsL p pl c)]) (fun c => pl.length - c) 0 ⟨Nat.zero_le _, by rw [pre_zero]; rfl, fun i _ => by rw [pre_zero]; exact Nat.zero_le _, by rw [costS_zero]; omega, by rw [costS_zero]; omega⟩ ?_ fun c hi => ?_
      · rw [costS_zero, pre_zero, leftN_nil]
        refine .cell 3 16 3 _ _ _ rfl rfl (by decide) .nil (.mk [0, 1, 2, 3, 4] (by decide) ?_ ?_ rfl)
        · repeat' (first | exact True.intro | exact Fit.dead _ | exact Fit.v _ | exact .i fun _ _ => rfl | exact Fit.ip | exact .p rfl | exact .q rfl | exact .s rfl | exact .y rfl | refine Fit.al ?_ | refine Fit.fl ?_ ?_ | refine And.intro ?_ ?_)
        · refine ⟨⟨_, rfl, .lit ?_⟩, ⟨_, rfl, .lit ?_⟩, ⟨_, rfl, fitMap (by rw [hkl]) hkl.symm⟩, ⟨_, rfl, .lit ?_⟩, ⟨_, rfl, .tab fun k hk => absurd hk (Nat.not_lt_zero k)⟩, trivial⟩
          all_goals (repeat' (first | exact True.intro | exact Fit.v _ | exact row_self eRd _ | exact row_self eWn _ | exact .mp rfl | exact .s rfl | refine And.intro ?_ ?_))
      obtain ⟨hc, hgood, hone, n0, n1⟩ := hi
      (conv => arg 1; whnf)
      refine br (fun h6 => ?_) (fun h6 => ?_)
      · have hlt : c < pl.length := by have := of_decide_eq_true h6; omega
        have e1 : (decide (0 ≤ (c : Int)) && decide ((c : Int) < (pl.length : Int))) = true := by simp only [Bool.and_eq_true, decide_eq_true_eq]; omega
        have e2 : (decide (0 ≤ (c : Int)) && decide ((c : Int) < (p.cs.length : Int))) = true := by simp only [Bool.and_eq_true, decide_eq_true_eq]; omega
        have ec : (c : Int).toNat = c := by omega
        obtain ⟨l, hl⟩ : ∃ l, l = pl.getD c [] := ⟨_, rfl⟩
        have hl1 : l.length ≤ 900 := by
          rw [hl, List.getD_eq_getElem?_getD, List.getElem?_eq_getElem hlt]
          exact hls _ (List.getElem_mem hlt)
        have hl' : pl.getD (c : Int).toNat [] = l := by rw [ec, hl]
        (conv => arg 1; whnf); (repeat' (first | (refine brt (by assumption) ?_; (conv => arg 1; whnf)) | (refine brf (by assumption) ?_; (conv => arg 1; whnf)) | fail))
        refine loopIn (fun j : Nat => j ≤ l.length ∧ (pre pl c j).all (bgood p car) = true ∧ (∀ i, i < p.ws.length → cnt (pre pl c j) i ≤ 1) ∧ 0 ≤ costS p pl c j ∧ costS p pl c j ≤ 56100000000 * (c : Int) + 62300000 * (j : Int)) (fun j => frm 129 [(1, i64 car), (3, .p 1 0), (8, .p 3 0), (10, i64 c), (12, .p 5 0), (53, rrow eI pl), (54, i64 pl.length), (55, i64 c), (66, row eI l), (67, i64 l.length), (68, i64 j)]) (fun j => [.lit (snapC p), .lit (snapC p), .map (mp (leftN p.ws.length (pre pl c j))) p.ws.length, .lit (partC p car (.s 4 3 0 c) (costS p pl c j)), tabl eSt (endsL p pl c), .lit (eSt.enc (stAt p c l j))]) (fun j => l.length - j) 0 [0, 1, 2, 3, 4, 5] ⟨Nat.zero_le _, hgood, hone, n0, by omega⟩ (by decide) ?_ ?_ rfl fun j hj => ?_
        · repeat' (first | exact True.intro | exact Fit.dead _ | exact Fit.v _ | exact .p rfl | exact .s rfl | exact .i fun _ _ => rfl | exact Fit.v' (congrArg (Value.int .i64) (show ((l.length : Nat) : Int) = _ by rw [hl'])) | (rw [hl']; exact row_self eI _) | refine And.intro ?_ ?_)
        · have hb0 : stAt p c l 0 = beginS (p.cs.getD (c : Int).toNat eRd.dflt) := by rw [stAt_zero, ec]
          rw [hb0]
          refine ⟨⟨_, rfl, .lit ?_⟩, ⟨_, rfl, .lit ?_⟩, ⟨_, rfl, fitMap rfl rfl⟩, ⟨_, rfl, .lit ?_⟩, ⟨_, rfl, .tab fun _ _ => rfl⟩, ⟨_, rfl, .lit ?_⟩, trivial⟩
          all_goals (repeat' (first | exact True.intro | exact Fit.v _ | exact row_self eRd _ | exact row_self eWn _ | exact .mp rfl | exact .s rfl | refine And.intro ?_ ?_))
        obtain ⟨hjl, hgoodj, honej, m0, m1⟩ := hj
        (conv => arg 1; whnf)
        refine br (fun h7 => ?_) (fun h7 => ?_)
        · have hlj : j < l.length := by have := of_decide_eq_true h7; omega
          have e3 : (decide (0 ≤ (j : Int)) && decide ((j : Int) < (l.length : Int))) = true := by simp only [Bool.and_eq_true, decide_eq_true_eq]; omega
          have ej : (j : Int).toNat = j := by omega
          obtain ⟨w, hw⟩ : ∃ w, w = l.getD j 0 := ⟨_, rfl⟩
          have hw' : l.getD (j : Int).toNat eI.dflt = w := by rw [ej, hw]; rfl
          have bad : bgood p car (w, c) = false → begOk p car pl = false := fun hb => beg_bad hlt (by rw [← hl]; exact hlj) (by rw [← hl, ← hw]; exact hb)
          have eg : bgood p car (w, c) = (((decide (0 ≤ w) && decide (w < (p.ws.length : Int))) && mayB (p.ws.getD w.toNat eWn.dflt).ca c) && decide ((c : Int) ≤ car)) := rfl
          cases h8 : decide (car < (c : Int)) with
          | true =>
            have h8' := of_decide_eq_true h8
            (conv => arg 1; whnf); (repeat' (first | (refine brt (by assumption) ?_; (conv => arg 1; whnf)) | (refine brf (by assumption) ?_; (conv => arg 1; whnf)) | fail))
            refine leaveRet ?_
            show tr _
            (conv => arg 1; whnf); (repeat' (first | (refine brt (by assumption) ?_; (conv => arg 1; whnf)) | (refine brf (by assumption) ?_; (conv => arg 1; whnf)) | fail))
            refine leaveRet ?_
            show tr _
            (conv => arg 1; whnf); (repeat' (first | (refine brt (by assumption) ?_; (conv => arg 1; whnf)) | (refine brf (by assumption) ?_; (conv => arg 1; whnf)) | fail))
            rw [leastR2_no (bad (by rw [eg, decide_eq_false (by omega : ¬ (c : Int) ≤ car)]; simp))]
            exact finS [] (by decide) (Fit.tl ⟨.v _, .v _, trivial⟩) trivial rfl
          | false =>
          have h8' := of_decide_eq_false h8
          by_cases hm : 0 ≤ w ∧ w.toNat ∈ leftN p.ws.length (pre pl c j)
          · obtain ⟨w0, hm⟩ := hm
            obtain ⟨w1, hz⟩ := leftN_mem.1 hm
            have hwz : ((w.toNat : Nat) : Int) = w := by omega
            obtain ⟨x, hx, hdel⟩ := mFind_yes _ 0 hm
            rw [hwz] at hx
            have hx' : mFind (.int .i64 (l.getD (j : Int).toNat eI.dflt)) (mp (leftN p.ws.length (pre pl c j))) 0 = some (0 + x, .bool true) := by rw [hw']; exact hx
            have q1 : (decide (0 ≤ l.getD (j : Int).toNat eI.dflt) && decide (l.getD (j : Int).toNat eI.dflt < (p.ws.length : Int))) = true := by rw [hw']; simp only [Bool.and_eq_true, decide_eq_true_eq]; omega
            have c2 : decide (0 ≤ (c : Int)) = true := decide_eq_true (by omega)
            have hmay : decide (bits .and .i64 ((p.ws.getD (l.getD (j : Int).toNat eI.dflt).toNat eWn.dflt).ca.fdiv (2 ^ min (c : Int).toNat 64)) 1 = 1) = mayB (p.ws.getD w.toNat eWn.dflt).ca c := by
              rw [hw', and1, Nat.min_eq_left (by omega), Int.fdiv_eq_ediv_of_nonneg _ (Int.le_of_lt (Int.pow_pos (by decide)))]
              rfl
            (conv => arg 1; whnf); (repeat' (first | (refine brt (by assumption) ?_; (conv => arg 1; whnf)) | (refine brf (by assumption) ?_; (conv => arg 1; whnf)) | fail))
            rw [hx']
            (refine brt ?_ ?_; (focus (exact and2 rfl (mOk_mp _); done)); (conv => arg 1; whnf))
            (conv => arg 1; whnf); (repeat' (first | (refine brt (by assumption) ?_; (conv => arg 1; whnf)) | (refine brf (by assumption) ?_; (conv => arg 1; whnf)) | fail))
            refine br (fun a4 => ?_) (fun a4 => ?_)
            · have a4' : (!(mayB (p.ws.getD w.toNat eWn.dflt).ca c)) = true := (congrArg (fun b => !b) hmay).symm.trans a4
              (conv => arg 1; whnf); (repeat' (first | (refine brt (by assumption) ?_; (conv => arg 1; whnf)) | (refine brf (by assumption) ?_; (conv => arg 1; whnf)) | fail))
              refine leaveRet ?_
              show tr _
              (conv => arg 1; whnf); (repeat' (first | (refine brt (by assumption) ?_; (conv => arg 1; whnf)) | (refine brf (by assumption) ?_; (conv => arg 1; whnf)) | fail))
              refine leaveRet ?_
              show tr _
              (conv => arg 1; whnf); (repeat' (first | (refine brt (by assumption) ?_; (conv => arg 1; whnf)) | (refine brf (by assumption) ?_; (conv => arg 1; whnf)) | fail))
              rw [leastR2_no (bad (by rw [eg, show mayB (p.ws.getD w.toNat eWn.dflt).ca c = false by simpa using a4']; simp))]
              exact finS [] (by decide) (Fit.tl ⟨.v _, .v _, trivial⟩) trivial rfl
            · have a4' : (!(mayB (p.ws.getD w.toNat eWn.dflt).ca c)) = false := (congrArg (fun b => !b) hmay).symm.trans a4
              have hg : bgood p car (w, c) = true := by
                rw [eg, show mayB (p.ws.getD w.toNat eWn.dflt).ca c = true by simpa using a4', decide_eq_true w0, decide_eq_true (by omega : w < (p.ws.length : Int)), decide_eq_true (by omega : (c : Int) ≤ car)]; rfl
              have hstep : pre pl c (j + 1) = pre pl c j ++ [(w, c)] := by rw [pre_step (by rw [← hl]; exact hlj), ← hl, ← hw]
              have hdel' : mDel (.int .i64 (l.getD (j : Int).toNat eI.dflt)) (mp (leftN p.ws.length (pre pl c j))) = mp (leftN p.ws.length (pre pl c (j + 1))) := by
                have h1 := mDel_mp hm
                rw [hwz] at h1
                rw [hw', h1, hstep]
                have h2 := leftN_del (n := p.ws.length) (L := pre pl c j) (w := w.toNat) (c := c)
                rw [hwz] at h2
                rw [h2]
              have htj := stAt_bd hr (by omega : c < p.cs.length) l j hjl
              have htj1 := stAt_bd hr (by omega : c < p.cs.length) l (j + 1) (by omega)
              have hN : (p.rd.s.right && (decide (0 ≤ (stAt p c l j).lv) && decide ((stAt p c l j).lv ≤ 1000000000))) = true := by
                rw [p.rd_eq, b1]; simp only [Bool.true_and, Bool.and_eq_true, decide_eq_true_eq]; omega
              (conv => arg 1; whnf); (repeat' (first | (refine brt (by assumption) ?_; (conv => arg 1; whnf)) | (refine brf (by assumption) ?_; (conv => arg 1; whnf)) | fail))
              rw [hdel']
              (refine brt ?_ ?_; (focus (exact and2 rfl (mOk_mp _); done)); (conv => arg 1; whnf))
              have hS : stAt p c l (j + 1) = nextS p.rd.s ⟨(stAt p c l j).fl, (stAt p c l j).he, (stAt p c l j).lv⟩ (p.ws.getD (l.getD (j : Int).toNat eI.dflt).toNat eWn.dflt).fl := by
                rw [stAt_succ p c hlj, p.rd_eq, hw', ← hw]; rfl
              have hst := costS_step p pl c j
              rw [← hl] at hst
              have hh0 := htj1.2.2.2.2 (by omega)
              have hC : costS p pl c (j + 1) = lim (lim (costS p pl c j) + lim (stAt p c l (j + 1)).he) := by
                rw [hst, lim_id (a := costS p pl c j) (by omega) (by omega), lim_id (a := (stAt p c l (j + 1)).he) (by omega) (by omega), lim_id (by omega) (by omega)]
              (conv => arg 1; whnf); (repeat' (first | (refine brt (by assumption) ?_; (conv => arg 1; whnf)) | (refine brf (by assumption) ?_; (conv => arg 1; whnf)) | fail))
              refine again (j + 1) [0, 1, 2, 3, 4, 5] ⟨hlj, ?_, fun i hi => ?_, by rw [hst]; omega, by rw [hst]; omega⟩ (by show l.length - (j + 1) < l.length - j; omega) (by decide) ?_ ?_ rfl
              · rw [hstep, List.all_append, hgoodj, List.all_cons, hg]; rfl
              · rw [hstep, cnt_append, cnt_one]
                have := honej i hi
                split
                · rename_i e
                  have : w.toNat = i := by omega
                  subst this
                  omega
                · omega
              · repeat' (first | exact True.intro | exact Fit.dead _ | exact Fit.v _ | exact .p rfl | exact .s rfl | exact .i fun _ _ => rfl | exact Fit.v' (congrArg (Value.int .i64) (nxt j (by omega)).symm) | refine And.intro ?_ ?_)
              · rw [hC, hS]
                refine ⟨⟨_, rfl, .lit ?_⟩, ⟨_, rfl, .lit ?_⟩, ⟨_, rfl, fitMap rfl rfl⟩, ⟨_, rfl, .lit ?_⟩, ⟨_, rfl, .tab fun _ _ => rfl⟩, ⟨_, rfl, .lit ?_⟩, trivial⟩
                all_goals (repeat' (first | exact True.intro | exact Fit.v _ | exact row_self eRd _ | exact row_self eWn _ | exact .mp rfl | exact .s rfl | refine And.intro ?_ ?_))
          · have hbw : begOk p car pl = false := by
              by_cases hin : 0 ≤ w ∧ w < (p.ws.length : Int)
              · exact beg_twice (i := w.toNat) hlt (by rw [← hl]; exact hlj) (by omega) (by rw [← hl, ← hw]; omega) (by
                  have : ¬ cnt (pre pl c j) w.toNat = 0 := fun e => hm ⟨hin.1, leftN_mem.2 ⟨by omega, e⟩⟩
                  omega)
              · refine bad ?_
                rw [eg]
                by_cases h0 : 0 ≤ w
                · rw [decide_eq_false (by omega : ¬ w < (p.ws.length : Int))]; simp
                · rw [decide_eq_false h0]; simp
            have hx : mFind (.int .i64 (l.getD (j : Int).toNat eI.dflt)) (mp (leftN p.ws.length (pre pl c j))) 0 = none := by
              rw [hw']
              exact mFind_no _ 0 fun a ha e => hm ⟨by omega, by rw [show w.toNat = a by omega]; exact ha⟩
            (conv => arg 1; whnf); (repeat' (first | (refine brt (by assumption) ?_; (conv => arg 1; whnf)) | (refine brf (by assumption) ?_; (conv => arg 1; whnf)) | fail))
            rw [hx]
            (refine brt ?_ ?_; (focus (exact and2 rfl (mOk_mp _); done)); (conv => arg 1; whnf))
            (conv => arg 1; whnf); (repeat' (first | (refine brt (by assumption) ?_; (conv => arg 1; whnf)) | (refine brf (by assumption) ?_; (conv => arg 1; whnf)) | fail))
            refine leaveRet ?_
            show tr _
            (conv => arg 1; whnf); (repeat' (first | (refine brt (by assumption) ?_; (conv => arg 1; whnf)) | (refine brf (by assumption) ?_; (conv => arg 1; whnf)) | fail))
            refine leaveRet ?_
            show tr _
            (conv => arg 1; whnf); (repeat' (first | (refine brt (by assumption) ?_; (conv => arg 1; whnf)) | (refine brf (by assumption) ?_; (conv => arg 1; whnf)) | fail))
            rw [leastR2_no hbw]
            exact finS [] (by decide) (Fit.tl ⟨.v _, .v _, trivial⟩) trivial rfl
        · have hjn : j = l.length := by have := of_decide_eq_false h7; omega
          have hen := endsL_len p pl c
          have e5 : (Nat.ble (0 + c) (endsL p pl c).length && (Nat.ble (0 + 1) 1 && Nat.ble (c + 1) 4294967295)) = true := and2 (Nat.ble_eq_true_of_le (by omega)) (and2 rfl (Nat.ble_eq_true_of_le (by omega)))
          (conv => arg 1; whnf); (repeat' (first | (refine brt (by assumption) ?_; (conv => arg 1; whnf)) | (refine brf (by assumption) ?_; (conv => arg 1; whnf)) | fail))
          refine leave ?_
          show tr _
          (conv => arg 1; whnf); (repeat' (first | (refine brt (by assumption) ?_; (conv => arg 1; whnf)) | (refine brf (by assumption) ?_; (conv => arg 1; whnf)) | fail))
          have hpn : pre pl c j = pre pl (c + 1) 0 := by rw [← pre_next hlt, ← hl, ← hjn]
          have hcn : costS p pl c j = costS p pl (c + 1) 0 := by rw [← costS_next, ← hl, ← hjn]
          refine again (c + 1) [0, 1, 2, 3, 7] ⟨hlt, by rw [← hpn]; exact hgoodj, by rw [← hpn]; exact honej, by rw [← hcn]; exact m0, by rw [← hcn]; omega⟩ (by show pl.length - (c + 1) < pl.length - c; omega) (by decide) ?_ ?_ rfl
          · repeat' (first | exact True.intro | exact Fit.dead _ | exact Fit.v _ | exact .p rfl | exact .s rfl | exact .i fun _ _ => rfl | exact Fit.v' (congrArg (Value.int .i64) (nxt c (by omega)).symm) | refine And.intro ?_ ?_)
          · rw [← hpn, ← hcn, endsL_succ, ← hl, ← hjn]
            refine ⟨⟨_, rfl, .lit ?_⟩, ⟨_, rfl, .lit ?_⟩, ⟨_, rfl, fitMap rfl rfl⟩, ⟨_, rfl, .lit ?_⟩, ⟨_, rfl, fit_tab (e := eSt) (RowIs.snoc eSt (RowIs.all eSt (⟨hen.symm, fun _ _ => rfl⟩ : RowIs eSt c _ (endsL p pl c))) rfl)⟩, trivial⟩
            all_goals (repeat' (first | exact True.intro | exact Fit.v _ | exact row_self eRd _ | exact row_self eWn _ | exact .mp rfl | exact .s rfl | refine And.intro ?_ ?_))
      · have hcl : c = pl.length := by have := of_decide_eq_false h6; omega
        have hall : (ents 0 pl).all (bgood p car) = true := by rw [hcl, pre_end] at hgood; exact hgood
        have hone' : ∀ i, i < p.ws.length → cnt (ents 0 pl) i ≤ 1 := by rw [hcl, pre_end] at hone; exact hone
        have hyes : begOk p car pl = true := by
          unfold begOk
          rw [hr, decide_eq_true hpl, hall, decide_eq_true (by omega : 0 ≤ car), decide_eq_true (by omega : car < (pl.length : Int))]
          exact List.all_eq_true.2 fun k hk => decide_eq_true (hone' k (List.mem_range.1 hk))
        obtain ⟨cn, hcn⟩ : ∃ cn : Nat, (cn : Int) = car := ⟨car.toNat, by omega⟩
        obtain ⟨C0, hC0⟩ : ∃ C0, C0 = costS p pl c 0 := ⟨_, rfl⟩
        obtain ⟨LN, hLN⟩ : ∃ LN, LN = leftN p.ws.length (pre pl c 0) := ⟨_, rfl⟩
        obtain ⟨K, hK⟩ : ∃ K, K = pl.length - cn := ⟨_, rfl⟩
        (conv => arg 1; whnf); (repeat' (first | (refine brt (by assumption) ?_; (conv => arg 1; whnf)) | (refine brf (by assumption) ?_; (conv => arg 1; whnf)) | fail))
        refine leave ?_
        show tr _
        (conv => arg 1; whnf); (repeat' (first | (refine brt (by assumption) ?_; (conv => arg 1; whnf)) | (refine brf (by assumption) ?_; (conv => arg 1; whnf)) | fail))
        rw [← hC0, ← hLN]
        refine loopIn (fun seen : List Nat => seen.Nodup ∧ (∀ i ∈ seen, i ∈ LN)) (fun seen => frm 47 [(6, i64 0), (7, i64 0), (8, .p 3 0), (10, i64 (accN p cn pl K C0 seen)), (31, .p 5 0)]) (fun seen => [.lit (snapC p), .lit (snapC p), .map (mp LN) p.ws.length, .lit (partC p car (.s 4 3 0 c) C0), tabl eSt (endsL p pl c), .iter 2 p.ws.length seen p.ws.length]) (fun seen => (LN.filter fun i => !seen.contains i).length) [] [0, 1, 2, 3, 4, 5] ⟨List.nodup_nil, fun i hi => absurd hi (List.not_mem_nil)⟩ (by decide) ?_ ?_ rfl fun seen hi => ?_
        · repeat' (first | exact True.intro | exact Fit.dead _ | exact Fit.v _ | exact .p rfl | exact Fit.v' (congrArg (Value.int .i64) (show accN p cn pl K C0 [] = C0 from rfl)) | refine And.intro ?_ ?_)
        · refine ⟨⟨_, rfl, .lit ?_⟩, ⟨_, rfl, .lit ?_⟩, ⟨_, rfl, fitMap rfl rfl⟩, ⟨_, rfl, .lit ?_⟩, ⟨_, rfl, .tab fun _ _ => rfl⟩, ⟨_, rfl, .iter _ _ _ rfl⟩, trivial⟩
          all_goals (repeat' (first | exact True.intro | exact Fit.v _ | exact row_self eRd _ | exact row_self eWn _ | exact .mp rfl | exact .s rfl | refine And.intro ?_ ?_))
        obtain ⟨hnd, hsub⟩ := hi
        (conv => arg 1; whnf)
        refine ⟨?_, fun hnil => ?_, fun e he => ?_⟩
        · exact old_mp fun i hi => by rw [hLN] at hi; exact (leftN_mem.1 hi).1
        · (conv => arg 1; whnf); (repeat' (first | (refine brt (by assumption) ?_; (conv => arg 1; whnf)) | (refine brf (by assumption) ?_; (conv => arg 1; whnf)) | fail))
          refine leave ?_
          show tr _
          (conv => arg 1; whnf); (repeat' (first | (refine brt (by assumption) ?_; (conv => arg 1; whnf)) | (refine brf (by assumption) ?_; (conv => arg 1; whnf)) | fail))
          have hfin : leastR2 p car pl = (accN p cn pl K C0 seen, 0) := by
            have hgl : ∀ c, c < pl.length → (pl.getD c []).length ≤ 1000 := fun c hc => by
              rw [List.getD_eq_getElem?_getD, List.getElem?_eq_getElem hc]
              exact Nat.le_trans (hls _ (List.getElem_mem hc)) (by decide)
            have hLN' : LN = leftN p.ws.length (ents 0 pl) := by rw [hLN, hcl, pre_end]
            have hlen : LN.length ≤ 128 := by have := leftN_len p.ws.length (ents 0 pl); rw [← hLN'] at this; omega
            have hpm : seen.Perm LN := perm_of hnd (by rw [hLN]; exact leftN_nodup _ _) hsub (leftE_nil hnil)
            have hct := cost_tail (p := p) (pl := pl) (cn := cn) (fun c h1 h2 => beg_empty hyes h2 (by omega)) (pl.length - (cn + 1)) (by omega)
            rw [show cn + 1 + (pl.length - (cn + 1)) = c by omega, ← hC0] at hct
            have hT : ∀ w : Nat, 0 ≤ lp p cn pl (w : Int) K ∧ lp p cn pl (w : Int) K ≤ 1099511627776 := fun w => by
              obtain ⟨g1, g2, g3⟩ := lw_bd hr hpl hgl cn (w : Int) K (by omega)
              omega
            unfold leastR2
            rw [hyes]
            show (rleast p car.toNat pl (leftL p.ws.length (ents 0 pl)) (costS p pl (car.toNat + 1) 0), (0 : Int)) = _
            rw [show car.toNat = cn by omega, ← hct]
            unfold leftL
            rw [← hLN', rleast_sum hr hpl hgl (by omega) LN C0 (by rw [hC0]; exact n0) (by rw [hC0]; omega)]
            unfold accN
            rw [acc_sum (T := fun w : Nat => lp p cn pl (w : Int) K) hT seen C0 (by rw [hC0]; exact n0) (by rw [hC0]; omega), perm_sum (hpm.map _), hK]
          rw [hfin]
          exact finS [] (by decide) (Fit.tl ⟨.v _, .v _, trivial⟩) trivial rfl
        · obtain ⟨i, rfl, hiL, hiS⟩ := leftE_mem he
          have hlast : (seen ++ [i]).getLast? = some i := by simp
          have hfnd := find_mp hiL
          have hbq : Nat.beq p.ws.length p.ws.length = true := Nat.beq_refl _
          have hin : i < p.ws.length := by rw [hLN] at hiL; exact (leftN_mem.1 hiL).1
          (conv => arg 1; whnf); (repeat' (first | (refine brt (by assumption) ?_; (conv => arg 1; whnf)) | (refine brf (by assumption) ?_; (conv => arg 1; whnf)) | fail))
          conv in (aOp _ _ _ _) => tactic => exact entOp (m := 5) (l := 2) (i := i) (seen := seen) (L := LN) rfl rfl rfl hiL
          (conv => arg 1; whnf); (repeat' (first | (refine brt (by assumption) ?_; (conv => arg 1; whnf)) | (refine brf (by assumption) ?_; (conv => arg 1; whnf)) | fail))
          refine loopIn (fun k : Nat => cn + k ≤ pl.length) (fun k => frm 50 [(0, .y 9), (1, .p 7 0), (2, .p 8 0), (4, i64 ((cn + k : Nat) : Int))]) (fun k => [.lit (snapC p), .lit (snapC p), .map (mp LN) p.ws.length, .lit (partC p car (.s 4 3 0 c) C0), tabl eSt (endsL p pl c), .iter 2 p.ws.length (seen ++ [i]) p.ws.length, .lit [i64 (lp p cn pl (i : Int) k)], .lit [.p 3 0], .lit [i64 (i : Int)], .lrec .normal]) (fun k => pl.length - (cn + k)) 0 [0, 1, 2, 3, 4, 5, 6, 7, 8, 9] (by show cn + 0 ≤ pl.length; omega) (by decide) ?_ ?_ rfl fun k hk => ?_
          · repeat' (first | exact True.intro | exact Fit.dead _ | exact Fit.v _ | exact .p rfl | exact .y rfl | exact Fit.v' (congrArg (Value.int .i64) (show ((cn + 0 : Nat) : Int) = car by rw [← hcn]; rfl)) | refine And.intro ?_ ?_)
          · refine ⟨⟨_, rfl, .lit ?_⟩, ⟨_, rfl, .lit ?_⟩, ⟨_, rfl, fitMap rfl rfl⟩, ⟨_, rfl, .lit ?_⟩, ⟨_, rfl, .tab fun _ _ => rfl⟩, ⟨_, rfl, .iter _ _ _ rfl⟩, ⟨_, rfl, .lit ?_⟩, ⟨_, rfl, .lit ?_⟩, ⟨_, rfl, .lit ?_⟩, ⟨_, rfl, .lrec _⟩, trivial⟩
            all_goals (repeat' (first | exact True.intro | exact Fit.v _ | exact row_self eRd _ | exact row_self eWn _ | exact .mp rfl | exact .s rfl | exact .p rfl | refine And.intro ?_ ?_))
          have hk : cn + k ≤ pl.length := hk
          have hlen := endsL_len p pl c
          (conv => arg 1; whnf)
          refine br (fun h8 => ?_) (fun h8 => ?_)
          · have h8' : ((cn + k : Nat) : Int) < (c : Int) := of_decide_eq_true h8
            have q1 : (decide (0 ≤ (i : Int)) && decide ((i : Int) < (p.ws.length : Int))) = true := by simp only [Bool.and_eq_true, decide_eq_true_eq]; omega
            have q2 : (decide (0 ≤ ((cn + k : Nat) : Int)) && decide (((cn + k : Nat) : Int) < (c : Int))) = true := by simp only [Bool.and_eq_true, decide_eq_true_eq]; omega
            have q3 : decide (0 + ((cn + k : Nat) : Int).toNat < (endsL p pl c).length) = true := decide_eq_true (by omega)
            have c2 : decide (0 ≤ ((cn + k : Nat) : Int)) = true := decide_eq_true (by omega)
            have hmay : decide (bits .and .i64 ((p.ws.getD (i : Int).toNat eWn.dflt).ca.fdiv (2 ^ min ((cn + k : Nat) : Int).toNat 64)) 1 = 1) = mayW p (i : Int) (cn + k) := by
              rw [and1, Nat.min_eq_left (by omega), Int.fdiv_eq_ediv_of_nonneg _ (Int.le_of_lt (Int.pow_pos (by decide)))]
              rfl
            cases hb1 : decide (bits .and .i64 ((p.ws.getD (i : Int).toNat eWn.dflt).ca.fdiv (2 ^ min ((cn + k : Nat) : Int).toNat 64)) 1 = 1) with
            | false =>
              have hmw : mayW p (i : Int) (cn + k) = false := hmay.symm.trans hb1
              (conv => arg 1; whnf); (repeat' (first | (refine brt (by assumption) ?_; (conv => arg 1; whnf)) | (refine brf (by assumption) ?_; (conv => arg 1; whnf)) | fail))
              refine again (k + 1) [0, 1, 2, 3, 4, 5, 6, 7, 8, 9] (by show cn + (k + 1) ≤ pl.length; omega) (by show pl.length - (cn + (k + 1)) < pl.length - (cn + k); omega) (by decide) ?_ ?_ rfl
              · repeat' (first | exact True.intro | exact Fit.dead _ | exact Fit.v _ | exact .p rfl | exact .y rfl | exact Fit.v' (congrArg (Value.int .i64) (nxt (cn + k) (by omega)).symm) | refine And.intro ?_ ?_)
              · rw [show lp p cn pl (i : Int) (k + 1) = lp p cn pl (i : Int) k by rw [lp, if_neg (by rw [hmw]; decide)]]
                refine ⟨⟨_, rfl, .lit ?_⟩, ⟨_, rfl, .lit ?_⟩, ⟨_, rfl, fitMap rfl rfl⟩, ⟨_, rfl, .lit ?_⟩, ⟨_, rfl, .tab fun _ _ => rfl⟩, ⟨_, rfl, .iter _ _ _ rfl⟩, ⟨_, rfl, .lit ?_⟩, ⟨_, rfl, .lit ?_⟩, ⟨_, rfl, .lit ?_⟩, ⟨_, rfl, .lrec _⟩, trivial⟩
                all_goals (repeat' (first | exact True.intro | exact Fit.v _ | exact row_self eRd _ | exact row_self eWn _ | exact .mp rfl | exact .s rfl | exact .p rfl | refine And.intro ?_ ?_))
            | true =>
              have hmw : mayW p (i : Int) (cn + k) = true := hmay.symm.trans hb1
              have hEnd : (endsL p pl c).getD (0 + ((cn + k : Nat) : Int).toNat) eSt.dflt = stAt p (cn + k) (pl.getD (cn + k) []) (pl.getD (cn + k) []).length := by
                rw [show 0 + ((cn + k : Nat) : Int).toNat = cn + k by omega]
                exact getD_range _ _ (by omega)
              have hgl : (pl.getD (cn + k) []).length ≤ 900 := by
                rw [List.getD_eq_getElem?_getD, List.getElem?_eq_getElem (show cn + k < pl.length by omega)]
                exact hls _ (List.getElem_mem _)
              have hte := stAt_bd hr (by omega : cn + k < p.cs.length) (pl.getD (cn + k) []) (pl.getD (cn + k) []).length (Nat.le_refl _)
              have hN : (p.rd.s.right && (decide (0 ≤ ((endsL p pl c).getD (0 + ((cn + k : Nat) : Int).toNat) eSt.dflt).lv) && decide (((endsL p pl c).getD (0 + ((cn + k : Nat) : Int).toNat) eSt.dflt).lv ≤ 1000000000))) = true := by
                rw [hEnd, p.rd_eq, b1]; simp only [Bool.true_and, Bool.and_eq_true, decide_eq_true_eq]; omega
              have hcand : (nextS p.rd.s ⟨((endsL p pl c).getD (0 + ((cn + k : Nat) : Int).toNat) eSt.dflt).fl, ((endsL p pl c).getD (0 + ((cn + k : Nat) : Int).toNat) eSt.dflt).he, ((endsL p pl c).getD (0 + ((cn + k : Nat) : Int).toNat) eSt.dflt).lv⟩ (p.ws.getD (i : Int).toNat eWn.dflt).fl).he = candT p pl (i : Int) (cn + k) := by
                rw [hEnd, p.rd_eq]; rfl
              (conv => arg 1; whnf); (repeat' (first | (refine brt (by assumption) ?_; (conv => arg 1; whnf)) | (refine brf (by assumption) ?_; (conv => arg 1; whnf)) | fail))
              refine again (k + 1) [0, 1, 2, 3, 4, 5, 6, 7, 8, 9] (by show cn + (k + 1) ≤ pl.length; omega) (by show pl.length - (cn + (k + 1)) < pl.length - (cn + k); omega) (by decide) ?_ ?_ rfl
              · repeat' (first | exact True.intro | exact Fit.dead _ | exact Fit.v _ | exact .p rfl | exact .y rfl | exact Fit.v' (congrArg (Value.int .i64) (nxt (cn + k) (by omega)).symm) | refine And.intro ?_ ?_)
              · rw [show lp p cn pl (i : Int) (k + 1) = min (lp p cn pl (i : Int) k) (candT p pl (i : Int) (cn + k)) by rw [lp, if_pos hmw], ← hcand, min_mm]
                refine ⟨⟨_, rfl, .lit ?_⟩, ⟨_, rfl, .lit ?_⟩, ⟨_, rfl, fitMap rfl rfl⟩, ⟨_, rfl, .lit ?_⟩, ⟨_, rfl, .tab fun _ _ => rfl⟩, ⟨_, rfl, .iter _ _ _ rfl⟩, ⟨_, rfl, .lit ?_⟩, ⟨_, rfl, .lit ?_⟩, ⟨_, rfl, .lit ?_⟩, ⟨_, rfl, .lrec _⟩, trivial⟩
                all_goals (repeat' (first | exact True.intro | exact Fit.v _ | exact row_self eRd _ | exact row_self eWn _ | exact .mp rfl | exact .s rfl | exact .p rfl | refine And.intro ?_ ?_))
          · have h8' : ¬ ((cn + k : Nat) : Int) < (c : Int) := of_decide_eq_false h8
            have hkK : k = K := by omega
            have hac : accN p cn pl K C0 (seen ++ [i]) = lim (lim (accN p cn pl K C0 seen) + lim (lp p cn pl (i : Int) k)) := by
              unfold accN; rw [List.foldl_append, hkK]; rfl
            (conv => arg 1; whnf); (repeat' (first | (refine brt (by assumption) ?_; (conv => arg 1; whnf)) | (refine brf (by assumption) ?_; (conv => arg 1; whnf)) | fail))
            refine leave ?_
            show tr _
            (conv => arg 1; whnf); (repeat' (first | (refine brt (by assumption) ?_; (conv => arg 1; whnf)) | (refine brf (by assumption) ?_; (conv => arg 1; whnf)) | fail))
            refine again (seen ++ [i]) [0, 1, 2, 3, 4, 5] ⟨?_, ?_⟩ (less_seen hiL hiS) (by decide) ?_ ?_ rfl
            · exact List.nodup_append.2 ⟨hnd, by simp, fun a ha b hb e => by
                have : b = i := by simpa using hb
                exact hiS (by rw [← this, ← e]; exact ha)⟩
            · intro a ha
              rcases List.mem_append.1 ha with h | h
              · exact hsub a h
              · have : a = i := by simpa using h
                exact this ▸ hiL
            · rw [hac]
              repeat' (first | exact True.intro | exact Fit.dead _ | exact Fit.v _ | exact .p rfl | refine And.intro ?_ ?_)
            · refine ⟨⟨_, rfl, .lit ?_⟩, ⟨_, rfl, .lit ?_⟩, ⟨_, rfl, fitMap rfl rfl⟩, ⟨_, rfl, .lit ?_⟩, ⟨_, rfl, .tab fun _ _ => rfl⟩, ⟨_, rfl, .iter _ _ _ rfl⟩, trivial⟩
              all_goals (repeat' (first | exact True.intro | exact Fit.v _ | exact row_self eRd _ | exact row_self eWn _ | exact .mp rfl | exact .s rfl | exact .p rfl | refine And.intro ?_ ?_))
end Go.Proofs.Ytglpeibbkkikgaa.E
