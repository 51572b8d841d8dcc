/- The document's wants that stand in no list. -/
import Derived.Test.YtglpeibbkkikgaaBoundMath
import Derived.Test.YtglpeibbkkikgaaBoundE
namespace Go.Proofs.Ytglpeibbkkikgaa.E
open Go NumMath
set_option linter.unusedSimpArgs false
set_option linter.unusedVariables false
set_option maxRecDepth 100000
set_option maxHeartbeats 8000000
def leftG : List AV → Option (Bool × AV × St) := ad3 adSnap adI (adRR eI) fun p car pl => some (pl.all fun l => decide (l.length ≤ 1000), .t [.s 0 1 0 (leftR p car pl).1.length, boo (leftR p car pl).2], [tabl eI (leftR p car pl).1])
noncomputable def XD2j : Cx := (XD2.join 100005).join 200007
theorem XD2j_ok : CxOk Try.prog XD2j := (XD2_ok.join 100005 rfl).join 200007 rfl
theorem rleft_ok : CtrOk Try.prog 32 (freshCtr leftG) :=
  freshCtr_ok XD2j_ok Try.func32 (by decide) rfl fun args u σn h => by
    obtain ⟨p, car, pl, hf, ⟨hp1, hp2⟩, _, ⟨hp3, hp4⟩, hv⟩ := ad3_some h
    simp only [Option.some.injEq, Prod.mk.injEq] at hv
    obtain ⟨hls, rfl, rfl⟩ := hv
    refine ⟨plainTab, _, hf, ?_⟩
    clear h hf
    have hls : ∀ l ∈ pl, l.length ≤ 1000 := fun l hl => of_decide_eq_true (List.all_eq_true.1 hls l hl)
    unfold runF
    (conv => arg 1; whnf)
    (refine brt ?_ ?_; (focus (exact and2 rfl (and2 rfl (snapRows hp1 hp2)); done)); (conv => arg 1; whnf))
    refine br (fun h1 => ?_) (fun h1 => ?_)
    · have h1' : (!p.rd.right) = true := h1
      rw [p.rd_eq] at h1'
      have hr : p.right = false := by simpa using h1'
      (conv => arg 1; whnf); (repeat' (first | (refine brt (by assumption) ?_; (conv => arg 1; whnf)) | (refine brf (by assumption) ?_; (conv => arg 1; whnf)) | fail))
      rw [leftR_no (beg_no1 fun h => by rw [h.1] at hr; cases hr)]
      exact Cov.slot 0 1 (.t [.v (.slice none 0 0), boo false]) (.t [.s 1 1 0 0, boo false]) rfl (by decide) (.t (k := 0) rfl .nil) (.mk [1] (by decide) ⟨Fit.tl ⟨.s rfl, .v _, trivial⟩, trivial⟩ ⟨⟨_, rfl, .tab fun k hk => absurd hk (Nat.not_lt_zero k)⟩, trivial⟩ rfl)
    have h1' : (!p.rd.right) = false := h1
    rw [p.rd_eq] at h1'
    have hr : p.right = true := by simpa using h1'
    obtain ⟨b1, b2, b3, b4, b5⟩ := Snap.right_bd hr
    have hb := Site.right_bd b1
    (conv => arg 1; whnf); (repeat' (first | (refine brt (by assumption) ?_; (conv => arg 1; whnf)) | (refine brf (by assumption) ?_; (conv => arg 1; whnf)) | fail))
    refine br (fun h2 => ?_) (fun h2 => ?_)
    · have h2' : (!(decide ((pl.length : Int) = (p.cs.length : Int)))) = true := h2
      have hne : ¬ pl.length = p.cs.length := fun e => by rw [e] at h2'; simp at h2'
      (conv => arg 1; whnf); (repeat' (first | (refine brt (by assumption) ?_; (conv => arg 1; whnf)) | (refine brf (by assumption) ?_; (conv => arg 1; whnf)) | fail))
      rw [leftR_no (beg_no1 fun h => hne h.2.1)]
      exact Cov.slot 0 1 (.t [.v (.slice none 0 0), boo false]) (.t [.s 1 1 0 0, boo false]) rfl (by decide) (.t (k := 0) rfl .nil) (.mk [1] (by decide) ⟨Fit.tl ⟨.s rfl, .v _, trivial⟩, trivial⟩ ⟨⟨_, rfl, .tab fun k hk => absurd hk (Nat.not_lt_zero k)⟩, trivial⟩ rfl)
    have h2' : (!(decide ((pl.length : Int) = (p.cs.length : Int)))) = false := h2
    have hpl : pl.length = p.cs.length := by
      have h3 : decide ((pl.length : Int) = (p.cs.length : Int)) = true := by simpa using h2'
      have := of_decide_eq_true h3
      omega
    (conv => arg 1; whnf); (repeat' (first | (refine brt (by assumption) ?_; (conv => arg 1; whnf)) | (refine brf (by assumption) ?_; (conv => arg 1; whnf)) | fail))
    refine br (fun h3 => ?_) (fun h3 => ?_)
    · have h3' := of_decide_eq_true h3
      (conv => arg 1; whnf); (repeat' (first | (refine brt (by assumption) ?_; (conv => arg 1; whnf)) | (refine brf (by assumption) ?_; (conv => arg 1; whnf)) | fail))
      rw [leftR_no (beg_no1 fun h => by have := h.2.2.1; omega)]
      exact Cov.slot 0 1 (.t [.v (.slice none 0 0), boo false]) (.t [.s 1 1 0 0, boo false]) rfl (by decide) (.t (k := 0) rfl .nil) (.mk [1] (by decide) ⟨Fit.tl ⟨.s rfl, .v _, trivial⟩, trivial⟩ ⟨⟨_, rfl, .tab fun k hk => absurd hk (Nat.not_lt_zero k)⟩, trivial⟩ rfl)
    have h3' : ¬ car < 0 := of_decide_eq_false h3
    (conv => arg 1; whnf); (repeat' (first | (refine brt (by assumption) ?_; (conv => arg 1; whnf)) | (refine brf (by assumption) ?_; (conv => arg 1; whnf)) | fail))
    refine br (fun h4 => ?_) (fun h4 => ?_)
    · have h4' : (pl.length : Int) ≤ car := of_decide_eq_true h4
      (conv => arg 1; whnf); (repeat' (first | (refine brt (by assumption) ?_; (conv => arg 1; whnf)) | (refine brf (by assumption) ?_; (conv => arg 1; whnf)) | fail))
      rw [leftR_no (beg_no1 fun h => by have := h.2.2.2; omega)]
      exact Cov.slot 0 1 (.t [.v (.slice none 0 0), boo false]) (.t [.s 1 1 0 0, boo false]) rfl (by decide) (.t (k := 0) rfl .nil) (.mk [1] (by decide) ⟨Fit.tl ⟨.s rfl, .v _, trivial⟩, trivial⟩ ⟨⟨_, rfl, .tab fun k hk => absurd hk (Nat.not_lt_zero k)⟩, trivial⟩ rfl)
    have h4' : ¬ (pl.length : Int) ≤ car := of_decide_eq_false h4
    have hmk : (decide ((0 : Int) ≤ (p.ws.length : Int)) && Nat.ble (p.ws.length : Int).toNat 1073741823) = true := and2 (decide_eq_true (by omega)) (Nat.ble_eq_true_of_le (by omega))
    (conv => arg 1; whnf); (repeat' (first | (refine brt (by assumption) ?_; (conv => arg 1; whnf)) | (refine brf (by assumption) ?_; (conv => arg 1; whnf)) | fail))
    refine loopIn (fun c : Nat => c ≤ pl.length ∧ (pre pl c 0).all (bgood p car) = true ∧ ∀ i, i < p.ws.length → cnt (pre pl c 0) i ≤ 1) (fun c => frm 117 [(1, i64 car), (2, rrow eI pl), (3, .p 0 0), (8, .s 1 1 0 p.ws.length), (9, i64 c)]) (fun c => [.lit (snapC p), .tab 1 p.ws.length fun k => eI.enc ((cntOf p.ws.length (pre pl c 0)).getD k eI.dflt)]) (fun c => pl.length - c) 0 [0, 1] ⟨Nat.zero_le _, by rw [pre_zero]; rfl, fun i _ => by rw [pre_zero]; exact Nat.zero_le _⟩ (by decide) ?_ ?_ rfl fun c hi => ?_
    · repeat' (first | exact True.intro | exact Fit.dead _ | exact Fit.v _ | exact .i fun _ _ => rfl | exact Fit.ip | exact .p rfl | exact .q rfl | exact .s rfl | exact .y rfl | refine Fit.al ?_ | refine Fit.fl ?_ ?_ | refine And.intro ?_ ?_)
    · refine ⟨⟨_, rfl, .lit (by repeat' (first | exact True.intro | exact Fit.v _ | exact row_self eRd _ | exact row_self eWn _ | refine And.intro ?_ ?_))⟩, ⟨_, rfl, .tab fun k hk => ?_⟩, trivial⟩
      rw [pre_zero, cntOf_get _ _ hk]; rfl
    obtain ⟨hc, hgood, hone⟩ := hi
    have hc : c ≤ pl.length := hc
    (conv => arg 1; whnf)
    refine br (fun h5 => ?_) (fun h5 => ?_)
    · have hlt : c < pl.length := by have := of_decide_eq_true h5; omega
      have e1 : (decide (0 ≤ (c : Int)) && decide ((c : Int) < (pl.length : Int))) = true := by simp only [Bool.and_eq_true, decide_eq_true_eq]; omega
      have ec : (c : Int).toNat = c := by omega
      obtain ⟨l, hl⟩ : ∃ l, l = pl.getD c [] := ⟨_, rfl⟩
      have hl1 : l.length ≤ 1000 := by
        rw [hl, List.getD_eq_getElem?_getD, List.getElem?_eq_getElem hlt]
        exact hls _ (List.getElem_mem hlt)
      have hl' : pl.getD (c : Int).toNat [] = l := by rw [ec, hl]
      have hln : (true && decide (0 < l.length)) = decide (0 < ((pl.getD (c : Int).toNat []).length : Int)) := by rw [hl', Bool.true_and]; exact decide_eq_decide.2 (by omega)
      obtain ⟨bad, hbad⟩ : ∃ b : Bool, b = (decide (car < (c : Int)) && decide (0 < l.length)) := ⟨_, rfl⟩
      (conv => arg 1; whnf); (repeat' (first | (refine brt (by assumption) ?_; (conv => arg 1; whnf)) | (refine brf (by assumption) ?_; (conv => arg 1; whnf)) | fail))
      refine joinIn (fun _ : Unit => True) (fun _ => frm 117 [(1, i64 car), (2, rrow eI pl), (3, .p 0 0), (8, .s 1 1 0 p.ws.length), (9, i64 c), (55, boo bad)]) (fun _ => [.lit (snapC p), .tab 1 p.ws.length fun k => eI.enc ((cntOf p.ws.length (pre pl c 0)).getD k eI.dflt)]) ?_ (fun _ _ => ?_)
      · cases h6 : decide (car < (c : Int)) with
        | true =>
          (conv => arg 1; whnf); (repeat' (first | (refine brt (by assumption) ?_; (conv => arg 1; whnf)) | (refine brf (by assumption) ?_; (conv => arg 1; whnf)) | fail))
          refine joinTo () [0, 1] trivial (by decide) ?_ ?_ rfl
          · rw [hbad, h6]
            repeat' (first | exact True.intro | exact Fit.dead _ | exact Fit.v _ | exact .p rfl | exact .s rfl | exact .i fun _ _ => rfl | exact Fit.v' (congrArg Value.bool hln) | refine And.intro ?_ ?_)
          · exact ⟨⟨_, rfl, .lit (by repeat' (first | exact True.intro | exact Fit.v _ | exact row_self eRd _ | exact row_self eWn _ | refine And.intro ?_ ?_))⟩, ⟨_, rfl, .tab fun _ _ => rfl⟩, trivial⟩
        | false =>
          (conv => arg 1; whnf); (repeat' (first | (refine brt (by assumption) ?_; (conv => arg 1; whnf)) | (refine brf (by assumption) ?_; (conv => arg 1; whnf)) | fail))
          refine joinTo () [0, 1] trivial (by decide) ?_ ?_ rfl
          · rw [hbad, h6]
            repeat' (first | exact True.intro | exact Fit.dead _ | exact Fit.v _ | exact .p rfl | exact .s rfl | exact .i fun _ _ => rfl | refine And.intro ?_ ?_)
          · exact ⟨⟨_, rfl, .lit (by repeat' (first | exact True.intro | exact Fit.v _ | exact row_self eRd _ | exact row_self eWn _ | refine And.intro ?_ ?_))⟩, ⟨_, rfl, .tab fun _ _ => rfl⟩, trivial⟩
      cases bad with
      | true =>
        have hbd : car < (c : Int) ∧ 0 < l.length := by
          have := hbad.symm
          simp only [Bool.and_eq_true, decide_eq_true_eq] at this
          exact this
        (conv => arg 1; whnf); (repeat' (first | (refine brt (by assumption) ?_; (conv => arg 1; whnf)) | (refine brf (by assumption) ?_; (conv => arg 1; whnf)) | fail))
        refine leaveRet ?_
        show tr _
        (conv => arg 1; whnf); (repeat' (first | (refine brt (by assumption) ?_; (conv => arg 1; whnf)) | (refine brf (by assumption) ?_; (conv => arg 1; whnf)) | fail))
        rw [leftR_no (beg_car hlt (by rw [← hl]; exact hbd.2) hbd.1)]
        exact Cov.slot 0 1 (.t [.v (.slice none 0 0), boo false]) (.t [.s 2 1 0 0, boo false]) rfl (by decide) (.t (k := 0) rfl .nil) (.mk [2] (by decide) ⟨Fit.tl ⟨.s rfl, .v _, trivial⟩, trivial⟩ ⟨⟨_, rfl, .tab fun k hk => absurd hk (Nat.not_lt_zero k)⟩, trivial⟩ rfl)
      | false =>
      have hcar : 0 < l.length → (c : Int) ≤ car := fun hn => by
        rcases Int.lt_or_le car (c : Int) with h | h
        · rw [decide_eq_true h, decide_eq_true hn] at hbad; cases hbad
        · exact h
      (conv => arg 1; whnf); (repeat' (first | (refine brt (by assumption) ?_; (conv => arg 1; whnf)) | (refine brf (by assumption) ?_; (conv => arg 1; whnf)) | fail))
      refine loopIn (fun j : Nat => j ≤ l.length ∧ (pre pl c j).all (bgood p car) = true ∧ ∀ i, i < p.ws.length → cnt (pre pl c j) i ≤ 1) (fun j => frm 117 [(1, i64 car), (2, rrow eI pl), (3, .p 0 0), (8, .s 1 1 0 p.ws.length), (9, i64 c), (10, i64 j)]) (fun j => [.lit (snapC p), .tab 1 p.ws.length fun k => eI.enc ((cntOf p.ws.length (pre pl c j)).getD k eI.dflt)]) (fun j => l.length - j) 0 [0, 1] ⟨Nat.zero_le _, hgood, hone⟩ (by decide) ?_ ?_ rfl fun j hj => ?_
      · repeat' (first | exact True.intro | exact Fit.dead _ | exact Fit.v _ | exact .i fun _ _ => rfl | exact Fit.ip | exact .p rfl | exact .q rfl | exact .s rfl | exact .y rfl | refine Fit.al ?_ | refine Fit.fl ?_ ?_ | refine And.intro ?_ ?_)
      · exact ⟨⟨_, rfl, .lit (by repeat' (first | exact True.intro | exact Fit.v _ | exact row_self eRd _ | exact row_self eWn _ | refine And.intro ?_ ?_))⟩, ⟨_, rfl, .tab fun _ _ => rfl⟩, trivial⟩
      obtain ⟨hj, hgoodj, honej⟩ := hj
      have hj : j ≤ l.length := hj
      (conv => arg 1; whnf); (repeat' (first | (refine brt (by assumption) ?_; (conv => arg 1; whnf)) | (refine brf (by assumption) ?_; (conv => arg 1; whnf)) | fail))
      refine br (fun h6 => ?_) (fun h6 => ?_)
      · have hlj : j < l.length := by have := of_decide_eq_true h6; rw [hl'] at this; omega
        have hcc := hcar (by omega)
        have e2 : (decide (0 ≤ (j : Int)) && decide ((j : Int) < ((pl.getD (c : Int).toNat []).length : Int))) = true := by rw [hl']; simp only [Bool.and_eq_true, decide_eq_true_eq]; omega
        have ej : (j : Int).toNat = j := by omega
        obtain ⟨w, hw⟩ : ∃ w, w = l.getD j 0 := ⟨_, rfl⟩
        have bad : bgood p car (w, c) = false → begOk p car pl = false := fun hb => beg_bad hlt (by rw [← hl]; exact hlj) (by rw [← hl, ← hw]; exact hb)
        have hw' : ((pl.getD (c : Int).toNat []).getD (j : Int).toNat eI.dflt) = w := by rw [hl', ej, hw]; rfl
        have eg : bgood p car (w, c) = (((decide (0 ≤ w) && decide (w < (p.ws.length : Int))) && mayB (p.ws.getD w.toNat eWn.dflt).ca c) && decide ((c : Int) ≤ car)) := rfl
        (conv => arg 1; whnf); (repeat' (first | (refine brt (by assumption) ?_; (conv => arg 1; whnf)) | (refine brf (by assumption) ?_; (conv => arg 1; whnf)) | fail))
        refine br (fun a1 => ?_) (fun a1 => ?_)
        · (conv => arg 1; whnf); (repeat' (first | (refine brt (by assumption) ?_; (conv => arg 1; whnf)) | (refine brf (by assumption) ?_; (conv => arg 1; whnf)) | fail))
          refine leaveRet ?_
          show tr _
          (conv => arg 1; whnf); (repeat' (first | (refine brt (by assumption) ?_; (conv => arg 1; whnf)) | (refine brf (by assumption) ?_; (conv => arg 1; whnf)) | fail))
          refine leaveRet ?_
          show tr _
          (conv => arg 1; whnf); (repeat' (first | (refine brt (by assumption) ?_; (conv => arg 1; whnf)) | (refine brf (by assumption) ?_; (conv => arg 1; whnf)) | fail))
          rw [hw'] at a1
          have := of_decide_eq_true a1
          rw [leftR_no (bad (by rw [eg, decide_eq_false (by omega : ¬ 0 ≤ w)]; rfl))]
          exact Cov.slot 0 1 (.t [.v (.slice none 0 0), boo false]) (.t [.s 2 1 0 0, boo false]) rfl (by decide) (.t (k := 0) rfl .nil) (.mk [2] (by decide) ⟨Fit.tl ⟨.s rfl, .v _, trivial⟩, trivial⟩ ⟨⟨_, rfl, .tab fun k hk => absurd hk (Nat.not_lt_zero k)⟩, trivial⟩ rfl)
        (conv => arg 1; whnf); (repeat' (first | (refine brt (by assumption) ?_; (conv => arg 1; whnf)) | (refine brf (by assumption) ?_; (conv => arg 1; whnf)) | fail))
        refine br (fun a2 => ?_) (fun a2 => ?_)
        · (conv => arg 1; whnf); (repeat' (first | (refine brt (by assumption) ?_; (conv => arg 1; whnf)) | (refine brf (by assumption) ?_; (conv => arg 1; whnf)) | fail))
          refine leaveRet ?_
          show tr _
          (conv => arg 1; whnf); (repeat' (first | (refine brt (by assumption) ?_; (conv => arg 1; whnf)) | (refine brf (by assumption) ?_; (conv => arg 1; whnf)) | fail))
          refine leaveRet ?_
          show tr _
          (conv => arg 1; whnf); (repeat' (first | (refine brt (by assumption) ?_; (conv => arg 1; whnf)) | (refine brf (by assumption) ?_; (conv => arg 1; whnf)) | fail))
          rw [hw'] at a2
          have := of_decide_eq_true a2
          rw [leftR_no (bad (by rw [eg, decide_eq_false (by omega : ¬ w < (p.ws.length : Int))]; simp))]
          exact Cov.slot 0 1 (.t [.v (.slice none 0 0), boo false]) (.t [.s 2 1 0 0, boo false]) rfl (by decide) (.t (k := 0) rfl .nil) (.mk [2] (by decide) ⟨Fit.tl ⟨.s rfl, .v _, trivial⟩, trivial⟩ ⟨⟨_, rfl, .tab fun k hk => absurd hk (Nat.not_lt_zero k)⟩, trivial⟩ rfl)
        have w0 : 0 ≤ w := by rw [hw'] at a1; have := of_decide_eq_false a1; omega
        have w1 : w < (p.ws.length : Int) := by rw [hw'] at a2; have := of_decide_eq_false a2; omega
        have hwz : (w.toNat : Int) = w := by omega
        have q1 : (decide (0 ≤ ((pl.getD (c : Int).toNat []).getD (j : Int).toNat eI.dflt)) && decide (((pl.getD (c : Int).toNat []).getD (j : Int).toNat eI.dflt) < (p.ws.length : Int))) = true := by rw [hw']; simp only [Bool.and_eq_true, decide_eq_true_eq]; omega
        have q2 : decide (0 + ((pl.getD (c : Int).toNat []).getD (j : Int).toNat eI.dflt).toNat < p.ws.length) = true := by rw [hw']; exact decide_eq_true (by omega)
        (conv => arg 1; whnf); (repeat' (first | (refine brt (by assumption) ?_; (conv => arg 1; whnf)) | (refine brf (by assumption) ?_; (conv => arg 1; whnf)) | fail))
        refine br (fun a3 => ?_) (fun a3 => ?_)
        · have a3 : decide (0 < (cntOf p.ws.length (pre pl c j)).getD (0 + ((pl.getD (c : Int).toNat []).getD (j : Int).toNat eI.dflt).toNat) eI.dflt) = true := a3
          have a3' := a3
          rw [hw', Nat.zero_add, cntOf_get (i := w.toNat) _ _ (by omega)] at a3'
          have a3' := of_decide_eq_true a3'
          (conv => arg 1; whnf); (repeat' (first | (refine brt (by assumption) ?_; (conv => arg 1; whnf)) | (refine brf (by assumption) ?_; (conv => arg 1; whnf)) | fail))
          refine leaveRet ?_
          show tr _
          (conv => arg 1; whnf); (repeat' (first | (refine brt (by assumption) ?_; (conv => arg 1; whnf)) | (refine brf (by assumption) ?_; (conv => arg 1; whnf)) | fail))
          refine leaveRet ?_
          show tr _
          (conv => arg 1; whnf); (repeat' (first | (refine brt (by assumption) ?_; (conv => arg 1; whnf)) | (refine brf (by assumption) ?_; (conv => arg 1; whnf)) | fail))
          rw [leftR_no (beg_twice (i := w.toNat) hlt (by rw [← hl]; exact hlj) (by omega) (by rw [← hl, ← hw, hwz]) (by omega))]
          exact Cov.slot 0 1 (.t [.v (.slice none 0 0), boo false]) (.t [.s 2 1 0 0, boo false]) rfl (by decide) (.t (k := 0) rfl .nil) (.mk [2] (by decide) ⟨Fit.tl ⟨.s rfl, .v _, trivial⟩, trivial⟩ ⟨⟨_, rfl, .tab fun k hk => absurd hk (Nat.not_lt_zero k)⟩, trivial⟩ rfl)
        have a3 : decide (0 < (cntOf p.ws.length (pre pl c j)).getD (0 + ((pl.getD (c : Int).toNat []).getD (j : Int).toNat eI.dflt).toNat) eI.dflt) = false := a3
        have a3' := a3
        rw [hw', Nat.zero_add, cntOf_get (i := w.toNat) _ _ (by omega)] at a3'
        have a3' := of_decide_eq_false a3'
        have hwn : wnOk p.s (p.ws.getD w.toNat eWn.dflt) = true := b5 _ (by rw [List.getD_eq_getElem?_getD, List.getElem?_eq_getElem (show w.toNat < p.ws.length by omega)]; exact List.getElem_mem _)
        have hca : 1 ≤ (p.ws.getD w.toNat eWn.dflt).ca ∧ (p.ws.getD w.toNat eWn.dflt).ca ≤ 1000000 := by
          unfold wnOk at hwn
          simp only [Bool.and_eq_true, decide_eq_true_eq] at hwn
          have := pow_bd (n := p.s.ca.toNat) (by omega)
          omega
        have Fc : ((decide (0 ≤ ((pl.getD (c : Int).toNat []).getD (j : Int).toNat eI.dflt)) && decide (((pl.getD (c : Int).toNat []).getD (j : Int).toNat eI.dflt) < (p.rd.ws.length : Int))) && ((decide (0 ≤ (c : Int)) && decide ((c : Int) ≤ 60)) && (decide (0 ≤ (p.rd.ws.getD ((pl.getD (c : Int).toNat []).getD (j : Int).toNat eI.dflt).toNat eWn.dflt).ca) && decide ((p.rd.ws.getD ((pl.getD (c : Int).toNat []).getD (j : Int).toNat eI.dflt).toNat eWn.dflt).ca ≤ 1000000)))) = true := by
          rw [p.rd_eq, hw']; simp only [Bool.and_eq_true, decide_eq_true_eq]; omega
        (conv => arg 1; whnf); (repeat' (first | (refine brt (by assumption) ?_; (conv => arg 1; whnf)) | (refine brf (by assumption) ?_; (conv => arg 1; whnf)) | fail))
        (refine brt ?_ ?_; (focus (exact and2 rfl (and2 (and2 (and2 Fc rfl) rfl) (snapRows hp1 hp2)); done)); (conv => arg 1; whnf))
        (conv => arg 1; whnf); (repeat' (first | (refine brt (by assumption) ?_; (conv => arg 1; whnf)) | (refine brf (by assumption) ?_; (conv => arg 1; whnf)) | fail))
        refine br (fun a4 => ?_) (fun a4 => ?_)
        · have a4 : (!(mayB (p.rd.ws.getD ((pl.getD (c : Int).toNat []).getD (j : Int).toNat eI.dflt).toNat eWn.dflt).ca c)) = true := a4
          rw [p.rd_eq, hw'] at a4
          (conv => arg 1; whnf); (repeat' (first | (refine brt (by assumption) ?_; (conv => arg 1; whnf)) | (refine brf (by assumption) ?_; (conv => arg 1; whnf)) | fail))
          refine leaveRet ?_
          show tr _
          (conv => arg 1; whnf); (repeat' (first | (refine brt (by assumption) ?_; (conv => arg 1; whnf)) | (refine brf (by assumption) ?_; (conv => arg 1; whnf)) | fail))
          refine leaveRet ?_
          show tr _
          (conv => arg 1; whnf); (repeat' (first | (refine brt (by assumption) ?_; (conv => arg 1; whnf)) | (refine brf (by assumption) ?_; (conv => arg 1; whnf)) | fail))
          rw [leftR_no (bad (by rw [eg, show mayB (p.ws.getD w.toNat eWn.dflt).ca c = false by simpa using a4]; simp))]
          exact Cov.slot 0 1 (.t [.v (.slice none 0 0), boo false]) (.t [.s 2 1 0 0, boo false]) rfl (by decide) (.t (k := 0) rfl .nil) (.mk [2] (by decide) ⟨Fit.tl ⟨.s rfl, .v _, trivial⟩, trivial⟩ ⟨⟨_, rfl, .tab fun k hk => absurd hk (Nat.not_lt_zero k)⟩, trivial⟩ rfl)
        have a4 : (!(mayB (p.rd.ws.getD ((pl.getD (c : Int).toNat []).getD (j : Int).toNat eI.dflt).toNat eWn.dflt).ca c)) = false := a4
        rw [p.rd_eq, hw'] at a4
        have hg : bgood p car (w, c) = true := by
          rw [eg, show mayB (p.ws.getD w.toNat eWn.dflt).ca c = true by simpa using a4, decide_eq_true w0, decide_eq_true w1, decide_eq_true hcc]; rfl
        (conv => arg 1; whnf); (repeat' (first | (refine brt (by assumption) ?_; (conv => arg 1; whnf)) | (refine brf (by assumption) ?_; (conv => arg 1; whnf)) | fail))
        have hstep : pre pl c (j + 1) = pre pl c j ++ [(w, c)] := by rw [pre_step (by rw [← hl]; exact hlj), ← hl, ← hw]
        refine again (j + 1) [0, 1] ⟨hlj, ?_, fun i hi => ?_⟩ (by show l.length - (j + 1) < l.length - j; omega) (by decide) ?_ ?_ rfl
        · rw [hstep, List.all_append, hgoodj, List.all_cons, hg]; rfl
        · rw [hstep, cnt_append, cnt_one]
          have := honej i hi
          split
          · rename_i e
            have : w.toNat = i := by omega
            subst this
            omega
          · omega
        · repeat' (first | exact True.intro | exact Fit.dead _ | exact Fit.v _ | exact .p rfl | exact .s rfl | exact .i fun _ _ => rfl | exact Fit.v' (congrArg (Value.int .i64) (nxt j (by omega)).symm) | refine And.intro ?_ ?_)
        · refine ⟨⟨_, rfl, .lit (by repeat' (first | exact True.intro | exact Fit.v _ | exact row_self eRd _ | exact row_self eWn _ | refine And.intro ?_ ?_))⟩, ⟨_, rfl, .tab fun k hk => ?_⟩, trivial⟩
          have hrow := RowIs.put eI (n := p.ws.length) (i := w.toNat) (i' := 0 + ((pl.getD (c : Int).toNat []).getD (j : Int).toNat eI.dflt).toNat) (j := 0) (g := fun k => eI.enc ((cntOf p.ws.length (pre pl c j)).getD k eI.dflt)) (l := cntOf p.ws.length (pre pl c j)) (cs := [i64 ((cnt (pre pl c j) w.toNat : Int) + 1)]) (a := (cnt (pre pl c j) w.toNat : Int) + 1) ⟨(cntOf_len _ _).symm, fun _ _ => rfl⟩ (by rw [hw', Nat.zero_add]) (by omega) rfl
          rw [cntOf_set _ _ _ c, hwz, ← hstep] at hrow
          refine (hrow.get k hk).symm.trans ?_
          show (if k = 0 + ((pl.getD (c : Int).toNat []).getD (j : Int).toNat eI.dflt).toNat then _ else _) = (if k = 0 + ((pl.getD (c : Int).toNat []).getD (j : Int).toNat eI.dflt).toNat then _ else _)
          split
          · show putCells (eI.enc _) 0 [i64 ((cnt (pre pl c j) w.toNat : Int) + 1)] = putCells (eI.enc _) 0 [i64 (IntKind.i64.wrap ((cntOf p.ws.length (pre pl c j)).getD (0 + ((pl.getD (c : Int).toNat []).getD (j : Int).toNat eI.dflt).toNat) eI.dflt + 1))]
            rw [hw', Nat.zero_add, cntOf_get (i := w.toNat) _ _ (by omega), i64w _ (by omega) (by omega)]
          · rfl
      · have hjl : j = l.length := by have := of_decide_eq_false h6; rw [hl'] at this; omega
        (conv => arg 1; whnf); (repeat' (first | (refine brt (by assumption) ?_; (conv => arg 1; whnf)) | (refine brf (by assumption) ?_; (conv => arg 1; whnf)) | fail))
        refine leave ?_
        show tr _
        (conv => arg 1; whnf); (repeat' (first | (refine brt (by assumption) ?_; (conv => arg 1; whnf)) | (refine brf (by assumption) ?_; (conv => arg 1; whnf)) | fail))
        refine again (c + 1) [0, 1] ⟨hlt, by rw [← pre_next hlt, ← hl, ← hjl]; exact hgoodj, by rw [← pre_next hlt, ← hl, ← hjl]; exact honej⟩ (by show pl.length - (c + 1) < pl.length - c; omega) (by decide) ?_ ?_ rfl
        · repeat' (first | exact True.intro | exact Fit.dead _ | exact Fit.v _ | exact .p rfl | exact .s rfl | exact .i fun _ _ => rfl | exact Fit.v' (congrArg (Value.int .i64) (nxt c (by omega)).symm) | refine And.intro ?_ ?_)
        · exact ⟨⟨_, rfl, .lit (by repeat' (first | exact True.intro | exact Fit.v _ | exact row_self eRd _ | exact row_self eWn _ | refine And.intro ?_ ?_))⟩, ⟨_, rfl, .tab fun k hk => by rw [← pre_next hlt, ← hl, ← hjl]⟩, trivial⟩
    · have hcl : c = pl.length := by have := of_decide_eq_false h5; omega
      have hall : (ents 0 pl).all (bgood p car) = true := by rw [hcl, pre_end] at hgood; exact hgood
      have hone' : ∀ i, i < p.ws.length → cnt (ents 0 pl) i ≤ 1 := by rw [hcl, pre_end] at hone; exact hone
      have hyes : begOk p car pl = true := by
        unfold begOk
        rw [hr, decide_eq_true hpl, hall, decide_eq_true (by omega : 0 ≤ car), decide_eq_true (by omega : car < (pl.length : Int))]
        exact List.all_eq_true.2 fun k hk => decide_eq_true (hone' k (List.mem_range.1 hk))
      obtain ⟨L, hL⟩ : ∃ L, L = ents 0 pl := ⟨_, rfl⟩
      (conv => arg 1; whnf); (repeat' (first | (refine brt (by assumption) ?_; (conv => arg 1; whnf)) | (refine brf (by assumption) ?_; (conv => arg 1; whnf)) | fail))
      refine leave ?_
      show tr _
      (conv => arg 1; whnf); (repeat' (first | (refine brt (by assumption) ?_; (conv => arg 1; whnf)) | (refine brf (by assumption) ?_; (conv => arg 1; whnf)) | fail))
      rw [leftR_yes hyes, ← hL]
      refine loopIn (fun i : Nat => i ≤ p.ws.length) (fun i => frm 117 [(8, .s 0 1 0 p.ws.length), (12, .s 1 1 0 (leftL i L).length), (13, i64 i)]) (fun i => [.tab 1 p.ws.length fun k => eI.enc ((cntOf p.ws.length L).getD k eI.dflt), tabl eI (leftL i L)]) (fun i => p.ws.length - i) 0 [1, 2] (Nat.zero_le _) (by decide) ?_ ?_ rfl fun i hi => ?_
      · repeat' (first | exact True.intro | exact Fit.dead _ | exact Fit.v _ | exact .i fun _ _ => rfl | exact Fit.ip | exact .p rfl | exact .q rfl | exact .s rfl | exact .y rfl | refine Fit.al ?_ | refine Fit.fl ?_ ?_ | refine And.intro ?_ ?_)
      · exact ⟨⟨_, rfl, .tab fun k hk => by rw [hcl, pre_end, hL]⟩, ⟨_, rfl, .tab fun k hk => absurd hk (Nat.not_lt_zero k)⟩, trivial⟩
      have hi : i ≤ p.ws.length := hi
      (conv => arg 1; whnf)
      refine br (fun h6 => ?_) (fun h6 => ?_)
      · have hli : i < p.ws.length := by have := of_decide_eq_true h6; omega
        have q1 : (decide (0 ≤ (i : Int)) && decide ((i : Int) < (p.ws.length : Int))) = true := by simp only [Bool.and_eq_true, decide_eq_true_eq]; omega
        have q2 : decide (0 + (i : Int).toNat < p.ws.length) = true := decide_eq_true (by omega)
        have ei : 0 + (i : Int).toNat = i := by omega
        (conv => arg 1; whnf); (repeat' (first | (refine brt (by assumption) ?_; (conv => arg 1; whnf)) | (refine brf (by assumption) ?_; (conv => arg 1; whnf)) | fail))
        refine joinIn (fun _ : Unit => True) (fun _ => frm 117 [(8, .s 0 1 0 p.ws.length), (12, .s 1 1 0 (leftL (i + 1) L).length), (13, i64 i)]) (fun _ => [.tab 1 p.ws.length fun k => eI.enc ((cntOf p.ws.length L).getD k eI.dflt), tabl eI (leftL (i + 1) L)]) ?_ (fun _ _ => ?_)
        · (conv => arg 1; whnf); (repeat' (first | (refine brt (by assumption) ?_; (conv => arg 1; whnf)) | (refine brf (by assumption) ?_; (conv => arg 1; whnf)) | fail))
          refine br (fun h7 => ?_) (fun h7 => ?_)
          · have h7' : decide ((cntOf p.ws.length L).getD (0 + (i : Int).toNat) eI.dflt = 0) = true := h7
            rw [ei, cntOf_get (i := i) _ _ hli] at h7'
            have h7' : cnt L i = 0 := by have := of_decide_eq_true h7'; omega
            have hll := leftL_len i L
            have es : leftL (i + 1) L = leftL i L ++ [(i : Int)] := by rw [leftL_succ, if_pos h7']
            have e5 : ((0 + (leftL i L).length).ble (leftL i L).length && ((0 + 1).ble 1 && ((leftL i L).length + 1).ble 4294967295)) = true := and2 (Nat.ble_eq_true_of_le (by omega)) (and2 rfl (Nat.ble_eq_true_of_le (by omega)))
            (conv => arg 1; whnf); (repeat' (first | (refine brt (by assumption) ?_; (conv => arg 1; whnf)) | (refine brf (by assumption) ?_; (conv => arg 1; whnf)) | fail))
            refine joinTo () [0, 3] trivial (by decide) ?_ ?_ rfl
            · rw [es]
              repeat' (first | exact True.intro | exact Fit.dead _ | exact Fit.v _ | exact .s rfl | exact fit_s rfl rfl List.length_append | refine And.intro ?_ ?_)
            · rw [es]
              exact ⟨⟨_, rfl, .tab fun _ _ => rfl⟩, ⟨_, rfl, fit_tab (e := eI) (RowIs.snoc eI (RowIs.all eI (RowIs.row eI _)) (congrArg (fun z => [i64 z]) rfl))⟩, trivial⟩
          · have h7' : decide ((cntOf p.ws.length L).getD (0 + (i : Int).toNat) eI.dflt = 0) = false := h7
            rw [ei, cntOf_get (i := i) _ _ hli] at h7'
            have h7' : ¬ cnt L i = 0 := by have := of_decide_eq_false h7'; omega
            have es : leftL (i + 1) L = leftL i L := by rw [leftL_succ, if_neg h7']
            (conv => arg 1; whnf); (repeat' (first | (refine brt (by assumption) ?_; (conv => arg 1; whnf)) | (refine brf (by assumption) ?_; (conv => arg 1; whnf)) | fail))
            refine joinTo () [0, 1] trivial (by decide) ?_ ?_ rfl
            · rw [es]; repeat' (first | exact True.intro | exact Fit.dead _ | exact Fit.v _ | exact .i fun _ _ => rfl | exact Fit.ip | exact .p rfl | exact .q rfl | exact .s rfl | exact .y rfl | refine Fit.al ?_ | refine Fit.fl ?_ ?_ | refine And.intro ?_ ?_)
            · rw [es]; exact ⟨⟨_, rfl, .tab fun _ _ => rfl⟩, ⟨_, rfl, .tab fun _ _ => rfl⟩, trivial⟩
        · (conv => arg 1; whnf); (repeat' (first | (refine brt (by assumption) ?_; (conv => arg 1; whnf)) | (refine brf (by assumption) ?_; (conv => arg 1; whnf)) | fail))
          refine again (i + 1) [0, 1] hli (by show p.ws.length - (i + 1) < p.ws.length - i; omega) (by decide) ?_ ?_ rfl
          · repeat' (first | exact True.intro | exact Fit.dead _ | exact Fit.v _ | exact .p rfl | exact .s rfl | exact .i fun _ _ => rfl | exact Fit.v' (congrArg (Value.int .i64) (nxt i (by omega)).symm) | refine And.intro ?_ ?_)
          · exact ⟨⟨_, rfl, .tab fun _ _ => rfl⟩, ⟨_, rfl, .tab fun _ _ => rfl⟩, trivial⟩
      · have hil : i = p.ws.length := by have := of_decide_eq_false h6; omega
        (conv => arg 1; whnf); (repeat' (first | (refine brt (by assumption) ?_; (conv => arg 1; whnf)) | (refine brf (by assumption) ?_; (conv => arg 1; whnf)) | fail))
        refine leave ?_
        show tr _
        (conv => arg 1; whnf); (repeat' (first | (refine brt (by assumption) ?_; (conv => arg 1; whnf)) | (refine brf (by assumption) ?_; (conv => arg 1; whnf)) | fail))
        refine finS [1] (by decide) (.tl ⟨fit_s rfl rfl (by rw [hil]), .v _, trivial⟩) ⟨⟨_, rfl, ?_⟩, trivial⟩ rfl
        rw [hil]
        exact .tab fun _ _ => rfl
end Go.Proofs.Ytglpeibbkkikgaa.E
