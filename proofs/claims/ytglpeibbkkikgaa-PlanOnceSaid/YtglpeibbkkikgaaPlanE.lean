/- The contracts of plans: which may be, by the program and by the document. -/
import Derived.Test.YtglpeibbkkikgaaSnapE
import Derived.Test.YtglpeibbkkikgaaPlanMath
namespace Go.Proofs.Ytglpeibbkkikgaa.E
open Go NumMath
set_option linter.unusedSimpArgs false
set_option linter.unusedVariables false
set_option maxRecDepth 100000
set_option maxHeartbeats 4000000

/-- Whether a car may serve a want that there is. -/
def good (p : Snap) (e : Int × Nat) : Bool := (decide (0 ≤ e.1) && decide (e.1 < (p.ws.length : Int))) && mayB (p.ws.getD e.1.toNat eWn.dflt).ca e.2
def feasB (p : Snap) (pl : List (List Int)) : Bool := p.right && (decide (pl.length = p.cs.length) && ((ents 0 pl).all (good p) && (List.range p.ws.length).all fun i => decide (cnt (ents 0 pl) i = 1)))
theorem feas_bad {p : Snap} {pl : List (List Int)} {c j : Nat} (hc : c < pl.length) (hj : j < (pl.getD c []).length) (h : good p ((pl.getD c []).getD j 0, c) = false) : feasB p pl = false := by
  have h1 : (ents 0 pl).all (good p) = false := by
    rw [Bool.eq_false_iff]
    intro hh
    obtain ⟨r, hr⟩ := pre_rest (pl := pl) (j := j + 1) hc
    rw [pre_step hj] at hr
    have := List.all_eq_true.1 hh ((pl.getD c []).getD j 0, c) (by rw [hr]; simp)
    rw [h] at this; cases this
  unfold feasB; rw [h1]; simp
theorem feas_twice {p : Snap} {pl : List (List Int)} {c j i : Nat} (hc : c < pl.length) (hi : i < p.ws.length) (h : 2 ≤ cnt (pre pl c j) i) : feasB p pl = false := by
  have h1 : ((List.range p.ws.length).all fun i => decide (cnt (ents 0 pl) i = 1)) = false := by
    rw [Bool.eq_false_iff]
    intro hh
    obtain ⟨r, hr⟩ := pre_rest (pl := pl) (j := j) hc
    have := of_decide_eq_true (List.all_eq_true.1 hh i (List.mem_range.2 hi))
    rw [hr, cnt_append] at this
    omega
  unfold feasB; rw [h1]; simp

/-- A snapshot, as it is read back. -/
abbrev Snap.rd (p : Snap) : Snap := ⟨⟨p.s.fl, p.s.ca, p.s.st, p.s.sp, p.s.so, p.s.op, p.s.wa, p.s.cl, p.s.nu, p.s.ag, p.s.si, p.s.bu, p.s.pe⟩, rows eRd p.cs.length fun k => eRd.enc (p.cs.getD k eRd.dflt), rows eWn p.ws.length fun k => eWn.enc (p.ws.getD k eWn.dflt)⟩
theorem Snap.rd_eq (p : Snap) : p.rd = p := by
  obtain ⟨s, cs, ws⟩ := p
  unfold Snap.rd
  rw [rows_row eRd, rows_row eWn]
theorem snapRows {p : Snap} (h1 : p.cs.length < 281474976710656) (h2 : p.ws.length < 281474976710656) : (isRow eRd p.cs.length eRd.sz (fun k => eRd.enc (p.cs.getD k eRd.dflt)) && isRow eWn p.ws.length eWn.sz (fun k => eWn.enc (p.ws.getD k eWn.dflt))) = true := and2 (isRow_row eRd h1) (isRow_row eWn h2)
theorem feas_no1 {p : Snap} {pl : List (List Int)} (h : p.right = false) : feasB p pl = false := by unfold feasB; rw [h]; rfl
theorem feas_no2 {p : Snap} {pl : List (List Int)} (h : ¬ pl.length = p.cs.length) : feasB p pl = false := by unfold feasB; rw [decide_eq_false h]; simp
/-! ### Whether it is among them -/
noncomputable def XD0 : Cx := XN0.addRun 57 (runFn XN0 Try.f57 (bodyOf Try.f57))
theorem XD0_ok : CxOk Try.prog XD0 := XN0_ok.addRun (runFn_ok XN0_ok Try.func57 (by decide) rfl)
def containsG : List AV → Option (Bool × AV) := ad2 (adR eB) adB fun l b => giv (decide (l.length ≤ 1000000)) (boo (l.any fun x => decide (b = x)))
theorem contains_ok : CtrOk Try.prog 43 (borCtr containsG) :=
  borCtr_can XD0_ok Try.func43 (by decide) rfl fun args u h => by
    obtain ⟨l, b, hf, hl, _, hv⟩ := ad2_some h
    obtain ⟨hlen, rfl⟩ := giv_some hv
    have hlen := of_decide_eq_true hlen
    refine ⟨_, hf, ?_⟩
    clear h hv hf
    unfold runF
    (conv => arg 1; whnf)
    refine loopIn (fun k : Nat => k ≤ l.length ∧ ∀ j, j < k → decide (b = l.getD j eB.dflt) = false) (fun k => frm 19 [(0, row eB l), (1, boo b), (7, i64 l.length), (8, i64 k)]) (fun _ => []) (fun k => l.length - k) 0 [] ⟨Nat.zero_le _, fun j hj => absurd hj (Nat.not_lt_zero j)⟩ List.nodup_nil ?_ True.intro rfl fun k hi => ?_
    · repeat' (first | exact True.intro | exact Fit.dead _ | exact Fit.v _ | exact row_self eB _ | refine And.intro ?_ ?_)
    · obtain ⟨hk, hno⟩ := hi
      (conv => arg 1; whnf)
      refine br (fun h => ?_) (fun h => ?_)
      · have hlt : k < l.length := by have := of_decide_eq_true h; omega
        have e1 : (decide (0 ≤ (k : Int)) && decide ((k : Int) < (l.length : Int))) = true := by simp only [Bool.and_eq_true, decide_eq_true_eq]; omega
        have ek : (k : Int).toNat = k := by omega
        (conv => arg 1; whnf); (repeat' (first | (refine brt (by assumption) ?_; (conv => arg 1; whnf)) | (refine brf (by assumption) ?_; (conv => arg 1; whnf)) | fail))
        refine br (fun h1 => ?_) (fun h1 => ?_)
        · have e2 : decide ((0 : Int) ≤ (k : Int)) = true := decide_eq_true (by omega)
          (conv => arg 1; whnf); (repeat' (first | (refine brt (by assumption) ?_; (conv => arg 1; whnf)) | (refine brf (by assumption) ?_; (conv => arg 1; whnf)) | fail))
          refine leaveRet ?_
          show tr _
          (conv => arg 1; whnf); (repeat' (first | (refine brt (by assumption) ?_; (conv => arg 1; whnf)) | (refine brf (by assumption) ?_; (conv => arg 1; whnf)) | fail))
          refine finB ?_
          rw [ek] at h1
          rw [e2]
          exact List.any_eq_true.2 ⟨l.getD k eB.dflt, by rw [List.getD_eq_getElem?_getD, List.getElem?_eq_getElem hlt]; exact List.getElem_mem hlt, h1⟩
        · (conv => arg 1; whnf); (repeat' (first | (refine brt (by assumption) ?_; (conv => arg 1; whnf)) | (refine brf (by assumption) ?_; (conv => arg 1; whnf)) | fail))
          rw [ek] at h1
          refine again (k + 1) [] ⟨hlt, fun j hj => ?_⟩ (by show l.length - (k + 1) < l.length - k; omega) List.nodup_nil ?_ True.intro rfl
          · rcases Nat.lt_or_ge j k with hj' | hj'
            · exact hno j hj'
            · have : j = k := by omega
              rw [this]; exact h1
          · repeat' (first | exact True.intro | exact Fit.dead _ | exact Fit.v _ | exact row_self eB _ | exact Fit.v' (congrArg (Value.int .i64) (nxt k (by omega)).symm) | refine And.intro ?_ ?_)
      · have hkl : k = l.length := by have := of_decide_eq_false h; omega
        (conv => arg 1; whnf); (repeat' (first | (refine brt (by assumption) ?_; (conv => arg 1; whnf)) | (refine brf (by assumption) ?_; (conv => arg 1; whnf)) | fail))
        refine leave ?_
        show tr _
        (conv => arg 1; whnf); (repeat' (first | (refine brt (by assumption) ?_; (conv => arg 1; whnf)) | (refine brf (by assumption) ?_; (conv => arg 1; whnf)) | fail))
        refine finB ?_
        show (l.any fun x => decide (b = x)) = decide ((0 : Int) ≤ -1)
        rw [Bool.eq_iff_iff]
        constructor
        · intro hh
          obtain ⟨x, hx, hy⟩ := List.any_eq_true.1 hh
          obtain ⟨j, hj, rfl⟩ := List.getElem_of_mem hx
          have := hno j (by omega)
          rw [List.getD_eq_getElem?_getD, List.getElem?_eq_getElem hj, Option.getD_some] at this
          rw [this] at hy; cases hy
        · intro hh; cases hh
/-! ### The program's way -/
def XD1 : Cx := ((XN0.add 14 (.foot reads2) (freshCtr srightG)).add 42 (.foot reads2) (freshCtr smayG)).add 43 (.reads readsL) (borCtr containsG)
theorem XD1_ok : CxOk Try.prog XD1 := ((XN0_ok.fresh sright_ok).fresh smay_ok).bor contains_ok
def feasG : List AV → Option (Bool × AV × St) := ad2 adSnap (adRR eI) fun p pl => some (pl.all fun l => decide (l.length ≤ 1000), boo (feasB p pl), [])
theorem feas_ok : CtrOk Try.prog 16 (freshCtr feasG) :=
  freshCtr_ok XD1_ok Try.func16 (by decide) rfl fun args u σn h => by
    obtain ⟨p, pl, hf, ⟨hp1, hp2⟩, ⟨hp3, hp4⟩, hv⟩ := ad2_some h
    simp only [Option.some.injEq, Prod.mk.injEq] at hv
    obtain ⟨hls, rfl, rfl⟩ := hv
    refine ⟨plainNil, _, hf, ?_⟩
    clear h hf
    have hls : ∀ l ∈ pl, l.length ≤ 1000 := fun l hl => of_decide_eq_true (List.all_eq_true.1 hls l hl)
    unfold runF
    (conv => arg 1; whnf)
    (refine brt ?_ ?_; (focus (exact and2 rfl (and2 rfl (snapRows hp1 hp2)); done)); (conv => arg 1; whnf))
    refine br (fun h1 => ?_) (fun h1 => ?_)
    · have h1' : (!p.rd.right) = true := h1
      rw [p.rd_eq] at h1'
      (conv => arg 1; whnf); (repeat' (first | (refine brt (by assumption) ?_; (conv => arg 1; whnf)) | (refine brf (by assumption) ?_; (conv => arg 1; whnf)) | fail))
      exact finB (feas_no1 (by simpa using h1'))
    · have h1' : (!p.rd.right) = false := h1
      rw [p.rd_eq] at h1'
      have hr : p.right = true := by simpa using h1'
      obtain ⟨b1, b2, b3, b4, b5⟩ := Snap.right_bd hr
      have hb := Site.right_bd b1
      (conv => arg 1; whnf); (repeat' (first | (refine brt (by assumption) ?_; (conv => arg 1; whnf)) | (refine brf (by assumption) ?_; (conv => arg 1; whnf)) | fail))
      refine br (fun h2 => ?_) (fun h2 => ?_)
      · have h2' : (!(decide ((pl.length : Int) = (p.cs.length : Int)))) = true := h2
        have hne : ¬ pl.length = p.cs.length := fun e => by rw [e] at h2'; simp at h2'
        (conv => arg 1; whnf); (repeat' (first | (refine brt (by assumption) ?_; (conv => arg 1; whnf)) | (refine brf (by assumption) ?_; (conv => arg 1; whnf)) | fail))
        exact finB (feas_no2 hne)
      · have h2' : (!(decide ((pl.length : Int) = (p.cs.length : Int)))) = false := h2
        have hpl : pl.length = p.cs.length := by
          have h3 : decide ((pl.length : Int) = (p.cs.length : Int)) = true := by simpa using h2'
          have := of_decide_eq_true h3
          omega
        have hmk : (decide ((0 : Int) ≤ (p.ws.length : Int)) && Nat.ble (p.ws.length : Int).toNat 1073741823) = true := and2 (decide_eq_true (by omega)) (Nat.ble_eq_true_of_le (by omega))
        (conv => arg 1; whnf); (repeat' (first | (refine brt (by assumption) ?_; (conv => arg 1; whnf)) | (refine brf (by assumption) ?_; (conv => arg 1; whnf)) | fail))
        refine loopIn (fun c : Nat => c ≤ pl.length ∧ (pre pl c 0).all (good p) = true ∧ ∀ i, cnt (pre pl c 0) i ≤ 1) (fun c => frm 67 [(2, .p 0 0), (5, .s 1 1 0 p.ws.length), (25, rrow eI pl), (26, i64 pl.length), (27, i64 c)]) (fun c => [.lit (snapC p), .tab 1 p.ws.length fun k => eB.enc ((seenOf p.ws.length (pre pl c 0)).getD k eB.dflt)]) (fun c => pl.length - c) 0 [0, 1] ⟨Nat.zero_le _, by rw [pre_zero]; rfl, fun i => by rw [pre_zero]; exact Nat.zero_le _⟩ (by decide) ?_ ?_ rfl fun c hi => ?_
        · repeat' (first | exact True.intro | exact Fit.dead _ | exact Fit.v _ | exact .p rfl | exact .s rfl | exact .i fun _ _ => rfl | refine And.intro ?_ ?_)
        · refine ⟨⟨_, rfl, .lit ?_⟩, ⟨_, rfl, .tab fun k hk => ?_⟩, trivial⟩
          · repeat' (first | exact True.intro | exact Fit.v _ | exact row_self eRd _ | exact row_self eWn _ | refine And.intro ?_ ?_)
          · rw [pre_zero, seenOf_get _ _ hk]; rfl
        · obtain ⟨hc, hgood, hone⟩ := hi
          have hc : c ≤ pl.length := hc
          (conv => arg 1; whnf)
          refine br (fun h3 => ?_) (fun h3 => ?_)
          · have hlt : c < pl.length := by have := of_decide_eq_true h3; omega
            have e1 : (decide (0 ≤ (c : Int)) && decide ((c : Int) < (pl.length : Int))) = true := by simp only [Bool.and_eq_true, decide_eq_true_eq]; omega
            have ec : (c : Int).toNat = c := by omega
            obtain ⟨l, hl⟩ : ∃ l, l = pl.getD c [] := ⟨_, rfl⟩
            have hl1 : l.length ≤ 1000 := by
              rw [hl, List.getD_eq_getElem?_getD, List.getElem?_eq_getElem hlt]
              exact hls _ (List.getElem_mem hlt)
            (conv => arg 1; whnf); (repeat' (first | (refine brt (by assumption) ?_; (conv => arg 1; whnf)) | (refine brf (by assumption) ?_; (conv => arg 1; whnf)) | fail))
            refine loopIn (fun j : Nat => j ≤ l.length ∧ (pre pl c j).all (good p) = true ∧ ∀ i, cnt (pre pl c j) i ≤ 1) (fun j => frm 67 [(2, .p 0 0), (5, .s 1 1 0 p.ws.length), (6, i64 c), (25, rrow eI pl), (26, i64 pl.length), (27, i64 c), (32, row eI l), (33, i64 l.length), (34, i64 j)]) (fun j => [.lit (snapC p), .tab 1 p.ws.length fun k => eB.enc ((seenOf p.ws.length (pre pl c j)).getD k eB.dflt)]) (fun j => l.length - j) 0 [0, 1] ⟨Nat.zero_le _, hgood, hone⟩ (by decide) ?_ ?_ rfl fun j hj => ?_
            · rw [hl]
              repeat' (first | exact True.intro | exact Fit.dead _ | exact Fit.v _ | exact .p rfl | exact .s rfl | exact .i fun _ _ => rfl | exact row_self eI _ | refine And.intro ?_ ?_)
            · exact ⟨⟨_, rfl, .lit (by repeat' (first | exact True.intro | exact Fit.v _ | exact row_self eRd _ | exact row_self eWn _ | refine And.intro ?_ ?_))⟩, ⟨_, rfl, .tab fun _ _ => rfl⟩, trivial⟩
            · obtain ⟨hj, hgood, hone⟩ := hj
              have hj : j ≤ l.length := hj
              (conv => arg 1; whnf)
              refine br (fun h4 => ?_) (fun h4 => ?_)
              · have hlj : j < l.length := by have := of_decide_eq_true h4; omega
                have e2 : (decide (0 ≤ (j : Int)) && decide ((j : Int) < (l.length : Int))) = true := by simp only [Bool.and_eq_true, decide_eq_true_eq]; omega
                have ej : (j : Int).toNat = j := by omega
                obtain ⟨w, hw⟩ : ∃ w, w = l.getD j 0 := ⟨_, rfl⟩
                have bad : good p (w, c) = false → feasB p pl = false := fun hb => feas_bad hlt (by rw [← hl]; exact hlj) (by rw [← hl, ← hw]; exact hb)
                have hw' : (l.getD (j : Int).toNat eI.dflt) = w := by rw [ej, hw]; rfl
                have eg : good p (w, c) = ((decide (0 ≤ w) && decide (w < (p.ws.length : Int))) && mayB (p.ws.getD w.toNat eWn.dflt).ca c) := rfl
                (conv => arg 1; whnf); (repeat' (first | (refine brt (by assumption) ?_; (conv => arg 1; whnf)) | (refine brf (by assumption) ?_; (conv => arg 1; whnf)) | fail))
                refine br (fun a1 => ?_) (fun a1 => ?_)
                · (conv => arg 1; whnf); (repeat' (first | (refine brt (by assumption) ?_; (conv => arg 1; whnf)) | (refine brf (by assumption) ?_; (conv => arg 1; whnf)) | fail))
                  refine leaveRet ?_
                  show tr _
                  (conv => arg 1; whnf); (repeat' (first | (refine brt (by assumption) ?_; (conv => arg 1; whnf)) | (refine brf (by assumption) ?_; (conv => arg 1; whnf)) | fail))
                  refine leaveRet ?_
                  show tr _
                  (conv => arg 1; whnf); (repeat' (first | (refine brt (by assumption) ?_; (conv => arg 1; whnf)) | (refine brf (by assumption) ?_; (conv => arg 1; whnf)) | fail))
                  rw [hw'] at a1
                  have := of_decide_eq_true a1
                  refine finB (bad ?_)
                  rw [eg, decide_eq_false (by omega : ¬ 0 ≤ w)]; rfl
                · (conv => arg 1; whnf); (repeat' (first | (refine brt (by assumption) ?_; (conv => arg 1; whnf)) | (refine brf (by assumption) ?_; (conv => arg 1; whnf)) | fail))
                  refine br (fun a2 => ?_) (fun a2 => ?_)
                  · (conv => arg 1; whnf); (repeat' (first | (refine brt (by assumption) ?_; (conv => arg 1; whnf)) | (refine brf (by assumption) ?_; (conv => arg 1; whnf)) | fail))
                    refine leaveRet ?_
                    show tr _
                    (conv => arg 1; whnf); (repeat' (first | (refine brt (by assumption) ?_; (conv => arg 1; whnf)) | (refine brf (by assumption) ?_; (conv => arg 1; whnf)) | fail))
                    refine leaveRet ?_
                    show tr _
                    (conv => arg 1; whnf); (repeat' (first | (refine brt (by assumption) ?_; (conv => arg 1; whnf)) | (refine brf (by assumption) ?_; (conv => arg 1; whnf)) | fail))
                    rw [hw'] at a2
                    have := of_decide_eq_true a2
                    refine finB (bad ?_)
                    rw [eg, decide_eq_false (by omega : ¬ w < (p.ws.length : Int))]; simp
                  · have w0 : 0 ≤ w := by rw [hw'] at a1; have := of_decide_eq_false a1; omega
                    have w1 : w < (p.ws.length : Int) := by rw [hw'] at a2; have := of_decide_eq_false a2; omega
                    have q1 : (decide (0 ≤ (l.getD (j : Int).toNat eI.dflt)) && decide ((l.getD (j : Int).toNat eI.dflt) < (p.ws.length : Int))) = true := by rw [hw']; simp only [Bool.and_eq_true, decide_eq_true_eq]; omega
                    have q2 : decide (0 + (l.getD (j : Int).toNat eI.dflt).toNat < p.ws.length) = true := by rw [hw']; exact decide_eq_true (by omega)
                    (conv => arg 1; whnf); (repeat' (first | (refine brt (by assumption) ?_; (conv => arg 1; whnf)) | (refine brf (by assumption) ?_; (conv => arg 1; whnf)) | fail))
                    refine br (fun a3 => ?_) (fun a3 => ?_)
                    · have a3 : (seenOf p.ws.length (pre pl c j)).getD (0 + (l.getD (j : Int).toNat eI.dflt).toNat) eB.dflt = true := a3
                      (conv => arg 1; whnf); (repeat' (first | (refine brt (by assumption) ?_; (conv => arg 1; whnf)) | (refine brf (by assumption) ?_; (conv => arg 1; whnf)) | fail))
                      refine leaveRet ?_
                      show tr _
                      (conv => arg 1; whnf); (repeat' (first | (refine brt (by assumption) ?_; (conv => arg 1; whnf)) | (refine brf (by assumption) ?_; (conv => arg 1; whnf)) | fail))
                      refine leaveRet ?_
                      show tr _
                      (conv => arg 1; whnf); (repeat' (first | (refine brt (by assumption) ?_; (conv => arg 1; whnf)) | (refine brf (by assumption) ?_; (conv => arg 1; whnf)) | fail))
                      rw [hw', Nat.zero_add, seenOf_get _ _ (by omega)] at a3
                      have := of_decide_eq_true a3
                      refine finB (feas_twice (c := c) (j := j + 1) hlt (show w.toNat < p.ws.length by omega) ?_)
                      rw [pre_step (by rw [← hl]; exact hlj), cnt_append, cnt_one, ← hl, ← hw, if_pos (by omega)]
                      omega
                    · have a3 : (seenOf p.ws.length (pre pl c j)).getD (0 + (l.getD (j : Int).toNat eI.dflt).toNat) eB.dflt = false := a3
                      have hwn : wnOk p.s (p.ws.getD w.toNat eWn.dflt) = true := b5 _ (by rw [List.getD_eq_getElem?_getD, List.getElem?_eq_getElem (show w.toNat < p.ws.length by omega)]; exact List.getElem_mem _)
                      have hca : 1 ≤ (p.ws.getD w.toNat eWn.dflt).ca ∧ (p.ws.getD w.toNat eWn.dflt).ca ≤ 1000000 := by
                        unfold wnOk at hwn
                        simp only [Bool.and_eq_true, decide_eq_true_eq] at hwn
                        have := pow_bd (n := p.s.ca.toNat) (by omega)
                        omega
                      have Fc : ((decide (0 ≤ (l.getD (j : Int).toNat eI.dflt)) && decide ((l.getD (j : Int).toNat eI.dflt) < (p.rd.ws.length : Int))) && ((decide (0 ≤ (c : Int)) && decide ((c : Int) ≤ 60)) && (decide (0 ≤ (p.rd.ws.getD (l.getD (j : Int).toNat eI.dflt).toNat eWn.dflt).ca) && decide ((p.rd.ws.getD (l.getD (j : Int).toNat eI.dflt).toNat eWn.dflt).ca ≤ 1000000)))) = true := by
                        rw [p.rd_eq, hw']; simp only [Bool.and_eq_true, decide_eq_true_eq]; omega
                      (conv => arg 1; whnf); (repeat' (first | (refine brt (by assumption) ?_; (conv => arg 1; whnf)) | (refine brf (by assumption) ?_; (conv => arg 1; whnf)) | fail))
                      (refine brt ?_ ?_; (focus (exact and2 rfl (and2 (and2 (and2 Fc rfl) rfl) (snapRows hp1 hp2)); done)); (conv => arg 1; whnf))
                      (conv => arg 1; whnf); (repeat' (first | (refine brt (by assumption) ?_; (conv => arg 1; whnf)) | (refine brf (by assumption) ?_; (conv => arg 1; whnf)) | fail))
                      refine br (fun a4 => ?_) (fun a4 => ?_)
                      · have a4 : (!(mayB (p.rd.ws.getD (l.getD (j : Int).toNat eI.dflt).toNat eWn.dflt).ca c)) = true := a4
                        rw [p.rd_eq, hw'] at a4
                        (conv => arg 1; whnf); (repeat' (first | (refine brt (by assumption) ?_; (conv => arg 1; whnf)) | (refine brf (by assumption) ?_; (conv => arg 1; whnf)) | fail))
                        refine leaveRet ?_
                        show tr _
                        (conv => arg 1; whnf); (repeat' (first | (refine brt (by assumption) ?_; (conv => arg 1; whnf)) | (refine brf (by assumption) ?_; (conv => arg 1; whnf)) | fail))
                        refine leaveRet ?_
                        show tr _
                        (conv => arg 1; whnf); (repeat' (first | (refine brt (by assumption) ?_; (conv => arg 1; whnf)) | (refine brf (by assumption) ?_; (conv => arg 1; whnf)) | fail))
                        refine finB (bad ?_)
                        rw [eg, show mayB (p.ws.getD w.toNat eWn.dflt).ca c = false by simpa using a4]; simp
                      · have a4 : (!(mayB (p.rd.ws.getD (l.getD (j : Int).toNat eI.dflt).toNat eWn.dflt).ca c)) = false := a4
                        rw [p.rd_eq, hw'] at a4
                        have hg : good p (w, c) = true := by
                          rw [eg, show mayB (p.ws.getD w.toNat eWn.dflt).ca c = true by simpa using a4, decide_eq_true w0, decide_eq_true w1]; rfl
                        (conv => arg 1; whnf); (repeat' (first | (refine brt (by assumption) ?_; (conv => arg 1; whnf)) | (refine brf (by assumption) ?_; (conv => arg 1; whnf)) | fail))
                        have hstep : pre pl c (j + 1) = pre pl c j ++ [(w, c)] := by rw [pre_step (by rw [← hl]; exact hlj), ← hl, ← hw]
                        rw [hw', Nat.zero_add, seenOf_get _ _ (by omega)] at a3
                        have hz : cnt (pre pl c j) w.toNat = 0 := by have := of_decide_eq_false a3; omega
                        refine again (j + 1) [0, 1] ⟨hlj, ?_, fun i => ?_⟩ (by show l.length - (j + 1) < l.length - j; omega) (by decide) ?_ ?_ rfl
                        · rw [hstep, List.all_append, hgood, List.all_cons, hg]; rfl
                        · rw [hstep, cnt_append, cnt_one]
                          split
                          · rename_i e
                            have : i = w.toNat := by omega
                            rw [this, hz]; omega
                          · exact hone i
                        · repeat' (first | exact True.intro | exact Fit.dead _ | exact Fit.v _ | exact .p rfl | exact .s rfl | exact .i fun _ _ => rfl | exact row_self eI _ | exact Fit.v' (congrArg (Value.int .i64) (nxt j (by omega)).symm) | refine And.intro ?_ ?_)
                        · refine ⟨⟨_, rfl, .lit (by repeat' (first | exact True.intro | exact Fit.v _ | exact row_self eRd _ | exact row_self eWn _ | refine And.intro ?_ ?_))⟩, ⟨_, rfl, .tab fun k hk => ?_⟩, trivial⟩
                          have hrow := RowIs.put eB (n := p.ws.length) (i := w.toNat) (i' := 0 + (l.getD (j : Int).toNat eI.dflt).toNat) (j := 0) (g := fun k => eB.enc ((seenOf p.ws.length (pre pl c j)).getD k eB.dflt)) (l := seenOf p.ws.length (pre pl c j)) (cs := [boo true]) (a := true) ⟨(seenOf_len _ _).symm, fun _ _ => rfl⟩ (by rw [hw', Nat.zero_add]) (by omega) rfl
                          rw [seenOf_set _ _ _ c, show ((w.toNat : Nat) : Int) = w by omega, ← hstep] at hrow
                          exact (hrow.get k hk).symm
              · have hjl : j = l.length := by have := of_decide_eq_false h4; omega
                (conv => arg 1; whnf); (repeat' (first | (refine brt (by assumption) ?_; (conv => arg 1; whnf)) | (refine brf (by assumption) ?_; (conv => arg 1; whnf)) | fail))
                refine leave ?_
                show tr _
                (conv => arg 1; whnf); (repeat' (first | (refine brt (by assumption) ?_; (conv => arg 1; whnf)) | (refine brf (by assumption) ?_; (conv => arg 1; whnf)) | fail))
                refine again (c + 1) [0, 1] ⟨hlt, by rw [← pre_next hlt, ← hl, ← hjl]; exact hgood, by rw [← pre_next hlt, ← hl, ← hjl]; exact hone⟩ (by show pl.length - (c + 1) < pl.length - c; omega) (by decide) ?_ ?_ rfl
                · repeat' (first | exact True.intro | exact Fit.dead _ | exact Fit.v _ | exact .p rfl | exact .s rfl | exact .i fun _ _ => rfl | exact Fit.v' (congrArg (Value.int .i64) (nxt c (by omega)).symm) | refine And.intro ?_ ?_)
                · exact ⟨⟨_, rfl, .lit (by repeat' (first | exact True.intro | exact Fit.v _ | exact row_self eRd _ | exact row_self eWn _ | refine And.intro ?_ ?_))⟩, ⟨_, rfl, .tab fun k hk => by rw [← pre_next hlt, ← hl, ← hjl]⟩, trivial⟩
          · have hcl : c = pl.length := by have := of_decide_eq_false h3; omega
            (conv => arg 1; whnf); (repeat' (first | (refine brt (by assumption) ?_; (conv => arg 1; whnf)) | (refine brf (by assumption) ?_; (conv => arg 1; whnf)) | fail))
            refine leave ?_
            show tr _
            have q1 : decide ((seenOf p.ws.length (pre pl c 0)).length ≤ 1000000) = true := decide_eq_true (by rw [seenOf_len]; omega)
            rw [hcl, pre_end] at hgood hone q1
            have hrowS : RowIs eB p.ws.length (fun k => eB.enc ((seenOf p.ws.length (pre pl c 0)).getD (0 + k) eB.dflt)) (seenOf p.ws.length (ents 0 pl)) := ⟨(seenOf_len _ _).symm, fun k hk => by rw [hcl, pre_end, Nat.zero_add]⟩
            (conv => arg 1; whnf); (repeat' (first | (refine brt (by assumption) ?_; (conv => arg 1; whnf)) | (refine brf (by assumption) ?_; (conv => arg 1; whnf)) | fail))
            (refine brt ?_ ?_; (focus (exact and2 (bor1 rfl (Nat.le_of_eq (Nat.zero_add _))) (and2 (and2 (by rw [RowIs.rows eB hrowS]; exact q1) rfl) (hrowS.isRow eB (by rw [seenOf_len]; omega))); done)); (conv => arg 1; whnf))
            refine finB ?_
            show feasB p pl = !((rows eB p.ws.length fun k => eB.enc ((seenOf p.ws.length (pre pl c 0)).getD (0 + k) eB.dflt)).any fun x => decide (false = x))
            rw [RowIs.rows eB hrowS]
            unfold feasB
            rw [hr, decide_eq_true hpl, hgood]
            show ((List.range p.ws.length).all fun i => decide (cnt (ents 0 pl) i = 1)) = _
            rw [Bool.eq_iff_iff, Bool.not_eq_true', List.any_eq_false, List.all_eq_true]
            constructor
            · intro hh x hx
              obtain ⟨i, hi, rfl⟩ := List.mem_map.1 hx
              have := of_decide_eq_true (hh i hi)
              rw [this]; decide
            · intro hh i hi
              have h1 := hh (decide (0 < cnt (ents 0 pl) i)) (List.mem_map.2 ⟨i, hi, rfl⟩)
              have h2 := hone i
              by_cases h0 : 0 < cnt (ents 0 pl) i
              · exact decide_eq_true (by omega)
              · rw [decide_eq_false h0] at h1; simp at h1

/-! ### The document's way -/
def XD2 : Cx := (XN0.add 15 (.foot reads2) (freshCtr srightG)).add 44 (.foot reads2) (freshCtr smayG)
theorem XD2_ok : CxOk Try.prog XD2 := (XN0_ok.fresh rsright_ok).fresh rsmay_ok
theorem rfeas_ok : CtrOk Try.prog 17 (freshCtr feasG) :=
  freshCtr_ok XD2_ok Try.func17 (by decide) rfl fun args u σn h => by
    obtain ⟨p, pl, hf, ⟨hp1, hp2⟩, ⟨hp3, hp4⟩, hv⟩ := ad2_some h
    simp only [Option.some.injEq, Prod.mk.injEq] at hv
    obtain ⟨hls, rfl, rfl⟩ := hv
    refine ⟨plainNil, _, hf, ?_⟩
    clear h hf
    have hls : ∀ l ∈ pl, l.length ≤ 1000 := fun l hl => of_decide_eq_true (List.all_eq_true.1 hls l hl)
    unfold runF
    (conv => arg 1; whnf)
    (refine brt ?_ ?_; (focus (exact and2 rfl (and2 rfl (snapRows hp1 hp2)); done)); (conv => arg 1; whnf))
    refine br (fun h1 => ?_) (fun h1 => ?_)
    · have h1' : (!p.rd.right) = true := h1
      rw [p.rd_eq] at h1'
      (conv => arg 1; whnf); (repeat' (first | (refine brt (by assumption) ?_; (conv => arg 1; whnf)) | (refine brf (by assumption) ?_; (conv => arg 1; whnf)) | fail))
      exact finB (feas_no1 (by simpa using h1'))
    · have h1' : (!p.rd.right) = false := h1
      rw [p.rd_eq] at h1'
      have hr : p.right = true := by simpa using h1'
      obtain ⟨b1, b2, b3, b4, b5⟩ := Snap.right_bd hr
      have hb := Site.right_bd b1
      (conv => arg 1; whnf); (repeat' (first | (refine brt (by assumption) ?_; (conv => arg 1; whnf)) | (refine brf (by assumption) ?_; (conv => arg 1; whnf)) | fail))
      refine br (fun h2 => ?_) (fun h2 => ?_)
      · have h2' : (!(decide ((pl.length : Int) = (p.cs.length : Int)))) = true := h2
        have hne : ¬ pl.length = p.cs.length := fun e => by rw [e] at h2'; simp at h2'
        (conv => arg 1; whnf); (repeat' (first | (refine brt (by assumption) ?_; (conv => arg 1; whnf)) | (refine brf (by assumption) ?_; (conv => arg 1; whnf)) | fail))
        exact finB (feas_no2 hne)
      · have h2' : (!(decide ((pl.length : Int) = (p.cs.length : Int)))) = false := h2
        have hpl : pl.length = p.cs.length := by
          have h3 : decide ((pl.length : Int) = (p.cs.length : Int)) = true := by simpa using h2'
          have := of_decide_eq_true h3
          omega
        have hmk : (decide ((0 : Int) ≤ (p.ws.length : Int)) && Nat.ble (p.ws.length : Int).toNat 1073741823) = true := and2 (decide_eq_true (by omega)) (Nat.ble_eq_true_of_le (by omega))
        (conv => arg 1; whnf); (repeat' (first | (refine brt (by assumption) ?_; (conv => arg 1; whnf)) | (refine brf (by assumption) ?_; (conv => arg 1; whnf)) | fail))
        refine loopIn (fun c : Nat => c ≤ pl.length ∧ (pre pl c 0).all (good p) = true) (fun c => frm 79 [(1, rrow eI pl), (2, .p 0 0), (5, .s 1 1 0 p.ws.length), (6, i64 c)]) (fun c => [.lit (snapC p), .tab 1 p.ws.length fun k => eI.enc ((cntOf p.ws.length (pre pl c 0)).getD k eI.dflt)]) (fun c => pl.length - c) 0 [0, 1] ⟨Nat.zero_le _, by rw [pre_zero]; rfl⟩ (by decide) ?_ ?_ rfl fun c hi => ?_
        · repeat' (first | exact True.intro | exact Fit.dead _ | exact Fit.v _ | exact .p rfl | exact .s rfl | exact .i fun _ _ => rfl | exact Fit.v' (congrArg (Value.int .i64) (nxt c (by omega)).symm) | refine And.intro ?_ ?_)
        · refine ⟨⟨_, rfl, .lit (by repeat' (first | exact True.intro | exact Fit.v _ | exact row_self eRd _ | exact row_self eWn _ | refine And.intro ?_ ?_))⟩, ⟨_, rfl, .tab fun k hk => ?_⟩, trivial⟩
          rw [pre_zero, cntOf_get _ _ hk]; rfl
        · obtain ⟨hc, hgood⟩ := hi
          have hc : c ≤ pl.length := hc
          (conv => arg 1; whnf)
          refine br (fun h3 => ?_) (fun h3 => ?_)
          · have hlt : c < pl.length := by have := of_decide_eq_true h3; omega
            have e1 : (decide (0 ≤ (c : Int)) && decide ((c : Int) < (pl.length : Int))) = true := by simp only [Bool.and_eq_true, decide_eq_true_eq]; omega
            have ec : (c : Int).toNat = c := by omega
            obtain ⟨l, hl⟩ : ∃ l, l = pl.getD c [] := ⟨_, rfl⟩
            have hl1 : l.length ≤ 1000 := by
              rw [hl, List.getD_eq_getElem?_getD, List.getElem?_eq_getElem hlt]
              exact hls _ (List.getElem_mem hlt)
            have hl' : pl.getD (c : Int).toNat [] = l := by rw [ec, hl]
            (conv => arg 1; whnf); (repeat' (first | (refine brt (by assumption) ?_; (conv => arg 1; whnf)) | (refine brf (by assumption) ?_; (conv => arg 1; whnf)) | fail))
            refine loopIn (fun j : Nat => j ≤ l.length ∧ (pre pl c j).all (good p) = true) (fun j => frm 79 [(1, rrow eI pl), (2, .p 0 0), (5, .s 1 1 0 p.ws.length), (6, i64 c), (7, i64 j)]) (fun j => [.lit (snapC p), .tab 1 p.ws.length fun k => eI.enc ((cntOf p.ws.length (pre pl c j)).getD k eI.dflt)]) (fun j => l.length - j) 0 [0, 1] ⟨Nat.zero_le _, hgood⟩ (by decide) ?_ ?_ rfl fun j hj => ?_
            · repeat' (first | exact True.intro | exact Fit.dead _ | exact Fit.v _ | exact .p rfl | exact .s rfl | exact .i fun _ _ => rfl | exact Fit.v' (congrArg (Value.int .i64) (nxt j (by omega)).symm) | refine And.intro ?_ ?_)
            · exact ⟨⟨_, rfl, .lit (by repeat' (first | exact True.intro | exact Fit.v _ | exact row_self eRd _ | exact row_self eWn _ | refine And.intro ?_ ?_))⟩, ⟨_, rfl, .tab fun _ _ => rfl⟩, trivial⟩
            · obtain ⟨hj, hgood⟩ := hj
              have hj : j ≤ l.length := hj
              (conv => arg 1; whnf); (repeat' (first | (refine brt (by assumption) ?_; (conv => arg 1; whnf)) | (refine brf (by assumption) ?_; (conv => arg 1; whnf)) | fail))
              refine br (fun h4 => ?_) (fun h4 => ?_)
              · have hlj : j < l.length := by have := of_decide_eq_true h4; rw [hl'] at this; omega
                have e2 : (decide (0 ≤ (j : Int)) && decide ((j : Int) < ((pl.getD (c : Int).toNat []).length : Int))) = true := by rw [hl']; simp only [Bool.and_eq_true, decide_eq_true_eq]; omega
                have ej : (j : Int).toNat = j := by omega
                obtain ⟨w, hw⟩ : ∃ w, w = l.getD j 0 := ⟨_, rfl⟩
                have bad : good p (w, c) = false → feasB p pl = false := fun hb => feas_bad hlt (by rw [← hl]; exact hlj) (by rw [← hl, ← hw]; exact hb)
                have hw' : ((pl.getD (c : Int).toNat []).getD (j : Int).toNat eI.dflt) = w := by rw [hl', ej, hw]; rfl
                have eg : good p (w, c) = ((decide (0 ≤ w) && decide (w < (p.ws.length : Int))) && mayB (p.ws.getD w.toNat eWn.dflt).ca c) := rfl
                (conv => arg 1; whnf); (repeat' (first | (refine brt (by assumption) ?_; (conv => arg 1; whnf)) | (refine brf (by assumption) ?_; (conv => arg 1; whnf)) | fail))
                refine br (fun a1 => ?_) (fun a1 => ?_)
                · (conv => arg 1; whnf); (repeat' (first | (refine brt (by assumption) ?_; (conv => arg 1; whnf)) | (refine brf (by assumption) ?_; (conv => arg 1; whnf)) | fail))
                  refine leaveRet ?_
                  show tr _
                  (conv => arg 1; whnf); (repeat' (first | (refine brt (by assumption) ?_; (conv => arg 1; whnf)) | (refine brf (by assumption) ?_; (conv => arg 1; whnf)) | fail))
                  refine leaveRet ?_
                  show tr _
                  (conv => arg 1; whnf); (repeat' (first | (refine brt (by assumption) ?_; (conv => arg 1; whnf)) | (refine brf (by assumption) ?_; (conv => arg 1; whnf)) | fail))
                  rw [hw'] at a1
                  have := of_decide_eq_true a1
                  refine finB (bad ?_)
                  rw [eg, decide_eq_false (by omega : ¬ 0 ≤ w)]; rfl
                · (conv => arg 1; whnf); (repeat' (first | (refine brt (by assumption) ?_; (conv => arg 1; whnf)) | (refine brf (by assumption) ?_; (conv => arg 1; whnf)) | fail))
                  refine br (fun a2 => ?_) (fun a2 => ?_)
                  · (conv => arg 1; whnf); (repeat' (first | (refine brt (by assumption) ?_; (conv => arg 1; whnf)) | (refine brf (by assumption) ?_; (conv => arg 1; whnf)) | fail))
                    refine leaveRet ?_
                    show tr _
                    (conv => arg 1; whnf); (repeat' (first | (refine brt (by assumption) ?_; (conv => arg 1; whnf)) | (refine brf (by assumption) ?_; (conv => arg 1; whnf)) | fail))
                    refine leaveRet ?_
                    show tr _
                    (conv => arg 1; whnf); (repeat' (first | (refine brt (by assumption) ?_; (conv => arg 1; whnf)) | (refine brf (by assumption) ?_; (conv => arg 1; whnf)) | fail))
                    rw [hw'] at a2
                    have := of_decide_eq_true a2
                    refine finB (bad ?_)
                    rw [eg, decide_eq_false (by omega : ¬ w < (p.ws.length : Int))]; simp
                  · have w0 : 0 ≤ w := by rw [hw'] at a1; have := of_decide_eq_false a1; omega
                    have w1 : w < (p.ws.length : Int) := by rw [hw'] at a2; have := of_decide_eq_false a2; omega
                    have q1 : (decide (0 ≤ ((pl.getD (c : Int).toNat []).getD (j : Int).toNat eI.dflt)) && decide (((pl.getD (c : Int).toNat []).getD (j : Int).toNat eI.dflt) < (p.ws.length : Int))) = true := by rw [hw']; simp only [Bool.and_eq_true, decide_eq_true_eq]; omega
                    have q2 : decide (0 + ((pl.getD (c : Int).toNat []).getD (j : Int).toNat eI.dflt).toNat < p.ws.length) = true := by rw [hw']; exact decide_eq_true (by omega)
                    have hwn : wnOk p.s (p.ws.getD w.toNat eWn.dflt) = true := b5 _ (by rw [List.getD_eq_getElem?_getD, List.getElem?_eq_getElem (show w.toNat < p.ws.length by omega)]; exact List.getElem_mem _)
                    have hca : 1 ≤ (p.ws.getD w.toNat eWn.dflt).ca ∧ (p.ws.getD w.toNat eWn.dflt).ca ≤ 1000000 := by
                      unfold wnOk at hwn
                      simp only [Bool.and_eq_true, decide_eq_true_eq] at hwn
                      have := pow_bd (n := p.s.ca.toNat) (by omega)
                      omega
                    have Fc : ((decide (0 ≤ ((pl.getD (c : Int).toNat []).getD (j : Int).toNat eI.dflt)) && decide (((pl.getD (c : Int).toNat []).getD (j : Int).toNat eI.dflt) < (p.rd.ws.length : Int))) && ((decide (0 ≤ (c : Int)) && decide ((c : Int) ≤ 60)) && (decide (0 ≤ (p.rd.ws.getD ((pl.getD (c : Int).toNat []).getD (j : Int).toNat eI.dflt).toNat eWn.dflt).ca) && decide ((p.rd.ws.getD ((pl.getD (c : Int).toNat []).getD (j : Int).toNat eI.dflt).toNat eWn.dflt).ca ≤ 1000000)))) = true := by
                      rw [p.rd_eq, hw']; simp only [Bool.and_eq_true, decide_eq_true_eq]; omega
                    (conv => arg 1; whnf); (repeat' (first | (refine brt (by assumption) ?_; (conv => arg 1; whnf)) | (refine brf (by assumption) ?_; (conv => arg 1; whnf)) | fail))
                    (refine brt ?_ ?_; (focus (exact and2 rfl (and2 (and2 (and2 Fc rfl) rfl) (snapRows hp1 hp2)); done)); (conv => arg 1; whnf))
                    (conv => arg 1; whnf); (repeat' (first | (refine brt (by assumption) ?_; (conv => arg 1; whnf)) | (refine brf (by assumption) ?_; (conv => arg 1; whnf)) | fail))
                    refine br (fun a4 => ?_) (fun a4 => ?_)
                    · have a4 : (!(mayB (p.rd.ws.getD ((pl.getD (c : Int).toNat []).getD (j : Int).toNat eI.dflt).toNat eWn.dflt).ca c)) = true := a4
                      rw [p.rd_eq, hw'] at a4
                      (conv => arg 1; whnf); (repeat' (first | (refine brt (by assumption) ?_; (conv => arg 1; whnf)) | (refine brf (by assumption) ?_; (conv => arg 1; whnf)) | fail))
                      refine leaveRet ?_
                      show tr _
                      (conv => arg 1; whnf); (repeat' (first | (refine brt (by assumption) ?_; (conv => arg 1; whnf)) | (refine brf (by assumption) ?_; (conv => arg 1; whnf)) | fail))
                      refine leaveRet ?_
                      show tr _
                      (conv => arg 1; whnf); (repeat' (first | (refine brt (by assumption) ?_; (conv => arg 1; whnf)) | (refine brf (by assumption) ?_; (conv => arg 1; whnf)) | fail))
                      refine finB (bad ?_)
                      rw [eg, show mayB (p.ws.getD w.toNat eWn.dflt).ca c = false by simpa using a4]; simp
                    · have a4 : (!(mayB (p.rd.ws.getD ((pl.getD (c : Int).toNat []).getD (j : Int).toNat eI.dflt).toNat eWn.dflt).ca c)) = false := a4
                      rw [p.rd_eq, hw'] at a4
                      have hg : good p (w, c) = true := by
                        rw [eg, show mayB (p.ws.getD w.toNat eWn.dflt).ca c = true by simpa using a4, decide_eq_true w0, decide_eq_true w1]; rfl
                      (conv => arg 1; whnf); (repeat' (first | (refine brt (by assumption) ?_; (conv => arg 1; whnf)) | (refine brf (by assumption) ?_; (conv => arg 1; whnf)) | fail))
                      have hstep : pre pl c (j + 1) = pre pl c j ++ [(w, c)] := by rw [pre_step (by rw [← hl]; exact hlj), ← hl, ← hw]
                      have hcl : cnt (pre pl c j) w.toNat ≤ 1001000 := Nat.le_trans (cnt_le _ _) (pre_len hls (by omega) (by omega))
                      refine again (j + 1) [0, 1] ⟨hlj, ?_⟩ (by show l.length - (j + 1) < l.length - j; omega) (by decide) ?_ ?_ rfl
                      · rw [hstep, List.all_append, hgood, List.all_cons, hg]; rfl
                      · repeat' (first | exact True.intro | exact Fit.dead _ | exact Fit.v _ | exact .p rfl | exact .s rfl | exact .i fun _ _ => rfl | exact Fit.v' (congrArg (Value.int .i64) (nxt j (by omega)).symm) | refine And.intro ?_ ?_)
                      · refine ⟨⟨_, rfl, .lit (by repeat' (first | exact True.intro | exact Fit.v _ | exact row_self eRd _ | exact row_self eWn _ | refine And.intro ?_ ?_))⟩, ⟨_, rfl, .tab fun k hk => ?_⟩, trivial⟩
                        have hrow := RowIs.put eI (n := p.ws.length) (i := w.toNat) (i' := 0 + ((pl.getD (c : Int).toNat []).getD (j : Int).toNat eI.dflt).toNat) (j := 0) (g := fun k => eI.enc ((cntOf p.ws.length (pre pl c j)).getD k eI.dflt)) (l := cntOf p.ws.length (pre pl c j)) (cs := [i64 ((cnt (pre pl c j) w.toNat : Int) + 1)]) (a := (cnt (pre pl c j) w.toNat : Int) + 1) ⟨(cntOf_len _ _).symm, fun _ _ => rfl⟩ (by rw [hw', Nat.zero_add]) (by omega) rfl
                        rw [cntOf_set _ _ _ c, show ((w.toNat : Nat) : Int) = w by omega, ← hstep] at hrow
                        refine (hrow.get k hk).symm.trans ?_
                        show (if k = 0 + ((pl.getD (c : Int).toNat []).getD (j : Int).toNat eI.dflt).toNat then _ else _) = (if k = 0 + ((pl.getD (c : Int).toNat []).getD (j : Int).toNat eI.dflt).toNat then _ else _)
                        split
                        · show putCells (eI.enc _) 0 [i64 ((cnt (pre pl c j) w.toNat : Int) + 1)] = putCells (eI.enc _) 0 [i64 (IntKind.i64.wrap ((cntOf p.ws.length (pre pl c j)).getD (0 + ((pl.getD (c : Int).toNat []).getD (j : Int).toNat eI.dflt).toNat) eI.dflt + 1))]
                          rw [hw', Nat.zero_add, cntOf_get (i := w.toNat) _ _ (by omega), i64w _ (by omega) (by omega)]
                        · rfl
              · have hjl : j = l.length := by have := of_decide_eq_false h4; rw [hl'] at this; omega
                (conv => arg 1; whnf); (repeat' (first | (refine brt (by assumption) ?_; (conv => arg 1; whnf)) | (refine brf (by assumption) ?_; (conv => arg 1; whnf)) | fail))
                refine leave ?_
                show tr _
                (conv => arg 1; whnf); (repeat' (first | (refine brt (by assumption) ?_; (conv => arg 1; whnf)) | (refine brf (by assumption) ?_; (conv => arg 1; whnf)) | fail))
                refine again (c + 1) [0, 1] ⟨hlt, by rw [← pre_next hlt, ← hl, ← hjl]; exact hgood⟩ (by show pl.length - (c + 1) < pl.length - c; omega) (by decide) ?_ ?_ rfl
                · repeat' (first | exact True.intro | exact Fit.dead _ | exact Fit.v _ | exact .p rfl | exact .s rfl | exact .i fun _ _ => rfl | exact Fit.v' (congrArg (Value.int .i64) (nxt c (by omega)).symm) | refine And.intro ?_ ?_)
                · exact ⟨⟨_, rfl, .lit (by repeat' (first | exact True.intro | exact Fit.v _ | exact row_self eRd _ | exact row_self eWn _ | refine And.intro ?_ ?_))⟩, ⟨_, rfl, .tab fun k hk => by rw [← pre_next hlt, ← hl, ← hjl]⟩, trivial⟩
          · have hcl : c = pl.length := by have := of_decide_eq_false h3; omega
            have hall : (ents 0 pl).all (good p) = true := by rw [hcl, pre_end] at hgood; exact hgood
            (conv => arg 1; whnf); (repeat' (first | (refine brt (by assumption) ?_; (conv => arg 1; whnf)) | (refine brf (by assumption) ?_; (conv => arg 1; whnf)) | fail))
            refine leave ?_
            show tr _
            (conv => arg 1; whnf); (repeat' (first | (refine brt (by assumption) ?_; (conv => arg 1; whnf)) | (refine brf (by assumption) ?_; (conv => arg 1; whnf)) | fail))
            refine loopIn (fun i : Nat => i ≤ p.ws.length ∧ ∀ k, k < i → cnt (ents 0 pl) k = 1) (fun i => frm 79 [(5, .s 0 1 0 p.ws.length), (9, i64 i)]) (fun _ => [.tab 1 p.ws.length fun k => eI.enc ((cntOf p.ws.length (ents 0 pl)).getD k eI.dflt)]) (fun i => p.ws.length - i) 0 [1] ⟨Nat.zero_le _, fun k hk => absurd hk (Nat.not_lt_zero k)⟩ (by decide) ?_ ?_ rfl fun i hi => ?_
            · repeat' (first | exact True.intro | exact Fit.dead _ | exact Fit.v _ | exact .p rfl | exact .s rfl | exact .i fun _ _ => rfl | exact Fit.v' (congrArg (Value.int .i64) (nxt c (by omega)).symm) | refine And.intro ?_ ?_)
            · exact ⟨⟨_, rfl, .tab fun k hk => by rw [hcl, pre_end]⟩, trivial⟩
            · obtain ⟨hi, hones⟩ := hi
              (conv => arg 1; whnf)
              refine br (fun h5 => ?_) (fun h5 => ?_)
              · have hli : i < p.ws.length := by have := of_decide_eq_true h5; omega
                have q1 : (decide (0 ≤ (i : Int)) && decide ((i : Int) < (p.ws.length : Int))) = true := by simp only [Bool.and_eq_true, decide_eq_true_eq]; omega
                have q2 : decide (0 + (i : Int).toNat < p.ws.length) = true := decide_eq_true (by omega)
                have ei : 0 + (i : Int).toNat = i := by omega
                (conv => arg 1; whnf); (repeat' (first | (refine brt (by assumption) ?_; (conv => arg 1; whnf)) | (refine brf (by assumption) ?_; (conv => arg 1; whnf)) | fail))
                refine br (fun h6 => ?_) (fun h6 => ?_)
                · have h6 : (!(decide ((cntOf p.ws.length (ents 0 pl)).getD (0 + (i : Int).toNat) eI.dflt = 1))) = true := h6
                  (conv => arg 1; whnf); (repeat' (first | (refine brt (by assumption) ?_; (conv => arg 1; whnf)) | (refine brf (by assumption) ?_; (conv => arg 1; whnf)) | fail))
                  refine leaveRet ?_
                  show tr _
                  (conv => arg 1; whnf); (repeat' (first | (refine brt (by assumption) ?_; (conv => arg 1; whnf)) | (refine brf (by assumption) ?_; (conv => arg 1; whnf)) | fail))
                  refine finB ?_
                  rw [ei, cntOf_get _ _ hli] at h6
                  have hne : ¬ cnt (ents 0 pl) i = 1 := fun e => by rw [e] at h6; simp at h6
                  unfold feasB
                  have : ((List.range p.ws.length).all fun i => decide (cnt (ents 0 pl) i = 1)) = false := by
                    rw [Bool.eq_false_iff]
                    intro hh
                    exact hne (of_decide_eq_true (List.all_eq_true.1 hh i (List.mem_range.2 hli)))
                  rw [this]; simp
                · have h6 : (!(decide ((cntOf p.ws.length (ents 0 pl)).getD (0 + (i : Int).toNat) eI.dflt = 1))) = false := h6
                  (conv => arg 1; whnf); (repeat' (first | (refine brt (by assumption) ?_; (conv => arg 1; whnf)) | (refine brf (by assumption) ?_; (conv => arg 1; whnf)) | fail))
                  rw [ei, cntOf_get _ _ hli] at h6
                  have he : cnt (ents 0 pl) i = 1 := by
                    have h7 : decide ((cnt (ents 0 pl) i : Int) = 1) = true := by simpa using h6
                    have := of_decide_eq_true h7
                    omega
                  refine again (i + 1) [0] ⟨hli, fun k hk => ?_⟩ (by show p.ws.length - (i + 1) < p.ws.length - i; omega) (by decide) ?_ ?_ rfl
                  · rcases Nat.lt_or_ge k i with hk' | hk'
                    · exact hones k hk'
                    · have : k = i := by omega
                      rw [this]; exact he
                  · repeat' (first | exact True.intro | exact Fit.dead _ | exact Fit.v _ | exact .p rfl | exact .s rfl | exact .i fun _ _ => rfl | exact Fit.v' (congrArg (Value.int .i64) (nxt i (by omega)).symm) | refine And.intro ?_ ?_)
                  · exact ⟨⟨_, rfl, .tab fun _ _ => rfl⟩, trivial⟩
              · have hil : i = p.ws.length := by have := of_decide_eq_false h5; omega
                (conv => arg 1; whnf); (repeat' (first | (refine brt (by assumption) ?_; (conv => arg 1; whnf)) | (refine brf (by assumption) ?_; (conv => arg 1; whnf)) | fail))
                refine leave ?_
                show tr _
                (conv => arg 1; whnf); (repeat' (first | (refine brt (by assumption) ?_; (conv => arg 1; whnf)) | (refine brf (by assumption) ?_; (conv => arg 1; whnf)) | fail))
                refine finB ?_
                unfold feasB
                rw [hr, decide_eq_true hpl, hall]
                exact List.all_eq_true.2 fun k hk => decide_eq_true (hones k (by rw [hil]; exact List.mem_range.1 hk))
end Go.Proofs.Ytglpeibbkkikgaa.E
