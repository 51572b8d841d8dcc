/- BoundTold. -/
import Derived.Test.YtglpeibbkkikgaaBoundLeastE
import Derived.Test.YtglpeibbkkikgaaBoundLeftE
import Derived.Test.YtglpeibbkkikgaaBoundRefE
import Derived.Test.YtglpeibbkkikgaaBoundBegE
import Derived.Test.YtglpeibbkkikgaaBoundSpeakE
namespace Go.Proofs.Ytglpeibbkkikgaa.E
open Go NumMath
set_option linter.unusedSimpArgs false
set_option linter.unusedVariables false
set_option maxRecDepth 100000
set_option maxHeartbeats 8000000
theorem allE {σ : St} {a b c : AV} {m n k : Nat} {g : Nat → List AV} (ha : vokD σ a = true) (hb : vokD σ b = true) (hc : vokD σ c = true) (hσ : σ[m]? = some (.tab 1 n g)) (hn : 0 + k ≤ n) : [a, b, c, .s m 1 0 k].all (vokD σ) = true := by
  have hs : vokD σ (.s m 1 0 k) = true := by simp only [vokD, vokD1, vok1, hσ]; exact decide_eq_true hn
  simp only [List.all_cons, List.all_nil, ha, hb, hc, hs, Bool.and_true]
abbrev leastC (p : Snap) (car : Int) (pl : List (List Int)) (left : List Int) : Bool := ((p.right && decide (pl.length = p.cs.length)) && (decide (0 ≤ car) && decide (car < (pl.length : Int)))) && ((pl.all fun l => decide (l.length ≤ 900) && l.all (inW p)) && (left.all (inW p) && decide (left.length ≤ 1000)))
theorem leastC_rows {p : Snap} {car : Int} {pl : List (List Int)} {n : Nat} {g : Nat → List AV} {l : List Int} (hR : RowIs eI n g l) (h : leastC p car pl l = true) : leastC p car pl (rows eI n g) = true := by rw [hR.rows eI]; exact h
theorem leastC_beg {p : Snap} {car : Int} {pl : List (List Int)} (h : begOk p car pl = true) (hl : ∀ l ∈ pl, l.length ≤ 900) : leastC p car pl (leftL p.ws.length (ents 0 pl)) = true := by
  unfold begOk at h
  simp only [Bool.and_eq_true, decide_eq_true_eq] at h
  obtain ⟨⟨h1, h2, h3, h4⟩, h5, h6⟩ := h
  obtain ⟨b1, b2, b3, b4, b5⟩ := Snap.right_bd h1
  have hll := leftL_len p.ws.length (ents 0 pl)
  simp only [Bool.and_eq_true, decide_eq_true_eq, List.all_eq_true]
  refine ⟨⟨⟨h1, h2⟩, h3, h4⟩, fun l hlm => ⟨hl l hlm, fun x hx => ?_⟩, fun x hx => ?_, by omega⟩
  · obtain ⟨c, hc, rfl⟩ := List.getElem_of_mem hlm
    obtain ⟨j, hj, rfl⟩ := List.getElem_of_mem hx
    have e1 : pl.getD c [] = pl[c] := by rw [List.getD_eq_getElem?_getD, List.getElem?_eq_getElem hc]; rfl
    have h7 := List.all_eq_true.1 h5 _ (ent_mem (j := j) hc (by rw [e1]; exact hj))
    rw [e1, List.getD_eq_getElem?_getD, List.getElem?_eq_getElem hj, Option.getD_some] at h7
    unfold bgood good at h7
    simp only [Bool.and_eq_true] at h7
    unfold inW
    rw [h7.1.1.1, h7.1.1.2]; rfl
  · unfold leftL at hx
    obtain ⟨i, hi, rfl⟩ := List.mem_map.1 hx
    have := (leftN_mem.1 hi).1
    unfold inW
    simp only [Bool.and_eq_true, decide_eq_true_eq]
    omega
noncomputable def XBT : Cx := ((((((XN0.add 28 .pure (pureCtr (fn0 (giv true (boo true))))).add 13 (.foot reads2) (freshCtr greatG)).add 29 (.foot reads2) (freshCtr beginsG)).add 30 (.foot reads2) (freshCtr beginsG)).add 31 (.foot reads2) (freshCtr leastG)).add 32 (.foot reads2) (freshCtr leftG)).add 33 (.foot reads2) (freshCtr rleastG)
theorem XBT_ok : CxOk Try.prog XBT := ((((((XN0_ok.pure speaks11_ok).fresh great_ok).fresh begins_ok).fresh rbegins_ok).fresh least_ok).fresh rleft_ok).fresh rleast_ok
theorem BoundTold (us : List AV) (h : areArgs tt [27, 3, 29, 29] us) : ∃ us', FitL [] [] us' us ∧ runF XBT Try.f9 us' [] (boo true) [] := by
  obtain ⟨_, _, rfl, h1, _, _, rfl, h2, _, _, rfl, h3, _, _, rfl, h4, rfl⟩ := h
  obtain ⟨p, rfl, hp1, hp2⟩ := snap_arg h1
  obtain ⟨car, rfl, _, _⟩ := int_arg h2
  obtain ⟨pl, hf3, hp3, hp4⟩ := plan_arg h3
  obtain ⟨ql, hf4, hq3, hq4⟩ := plan_arg h4
  refine ⟨[p.av, i64 car, rrow eI pl, rrow eI ql], ⟨Fit.al (by repeat' (first | exact True.intro | exact Fit.v _ | exact row_self eRd _ | exact row_self eWn _ | refine And.intro ?_ ?_)), .v _, hf3, hf4, trivial⟩, ?_⟩
  clear h1 h2 h3 h4 hf3 hf4
  unfold runF
  (conv => arg 1; whnf); (repeat' (first | (refine brt (by assumption) ?_; (conv => arg 1; whnf)) | (refine brf (by assumption) ?_; (conv => arg 1; whnf)) | fail))
  (refine brt ?_ ?_; (focus (exact and2 rfl (and2 (and2 rfl (planRows hp3 hp4)) (snapRows hp1 hp2)); done)); (conv => arg 1; whnf))
  refine br (fun h => ?_) (fun h => ?_)
  · (conv => arg 1; whnf); (repeat' (first | (refine brt (by assumption) ?_; (conv => arg 1; whnf)) | (refine brf (by assumption) ?_; (conv => arg 1; whnf)) | fail))
    exact finB rfl
  have h : greatB p.rd (rowsRR eI pl.length fun k => [row eI (pl.getD k [])]) = false := h
  have h' := h
  rw [p.rd_eq, rowsRR_row] at h'
  obtain ⟨g1, g2, g3, g4⟩ := great_no h'
  (conv => arg 1; whnf); (repeat' (first | (refine brt (by assumption) ?_; (conv => arg 1; whnf)) | (refine brf (by assumption) ?_; (conv => arg 1; whnf)) | fail))
  (refine brt ?_ ?_; (focus (exact and2 rfl (and2 (and2 rfl (planRows hq3 hq4)) (snapRows hp1 hp2)); done)); (conv => arg 1; whnf))
  (conv => arg 1; whnf); (repeat' (first | (refine brt (by assumption) ?_; (conv => arg 1; whnf)) | (refine brf (by assumption) ?_; (conv => arg 1; whnf)) | fail))
  refine br (fun k => ?_) (fun k => ?_)
  · (conv => arg 1; whnf); (repeat' (first | (refine brt (by assumption) ?_; (conv => arg 1; whnf)) | (refine brf (by assumption) ?_; (conv => arg 1; whnf)) | fail))
    exact finB rfl
  have k : greatB p.rd (rowsRR eI ql.length fun k => [row eI (ql.getD k [])]) = false := k
  have k' := k
  rw [p.rd_eq, rowsRR_row] at k'
  obtain ⟨k1, k2, k3, k4⟩ := great_no k'
  have lp1 : ∀ l ∈ pl, l.length ≤ 900 := fun l hl => by have := g4 l hl; omega
  have hlp : (pl.all fun l => decide (l.length ≤ 1000)) = true := List.all_eq_true.2 fun l hl => decide_eq_true (by have := g4 l hl; omega)
  have hlp9 : (pl.all fun l => decide (l.length ≤ 900)) = true := List.all_eq_true.2 fun l hl => decide_eq_true (lp1 l hl)
  have hlq : (ql.all fun l => decide (l.length ≤ 1000)) = true := List.all_eq_true.2 fun l hl => decide_eq_true (by have := k4 l hl; omega)
  have B1 : beginsB (rowsRR eI ql.length fun k => [row eI (ql.getD k [])]) car (rowsRR eI pl.length fun k => [row eI (pl.getD k [])]) = beginsB ql car pl := by rw [rowsRR_row, rowsRR_row]
  have CB : ((((rowsRR eI ql.length fun k => [row eI (ql.getD k [])]).all fun l => decide (l.length ≤ 1000)) && ((rowsRR eI pl.length fun k => [row eI (pl.getD k [])]).all fun l => decide (l.length ≤ 1000)))) = true := by rw [rowsRR_row, rowsRR_row]; exact and2 hlq hlp
  (conv => arg 1; whnf); (repeat' (first | (refine brt (by assumption) ?_; (conv => arg 1; whnf)) | (refine brf (by assumption) ?_; (conv => arg 1; whnf)) | fail))
  (refine brt ?_ ?_; (focus (exact and2 rfl (and2 (and2 (and2 CB (planRows hp3 hp4)) rfl) (planRows hq3 hq4)); done)); (conv => arg 1; whnf))
  (conv => arg 1; whnf); (repeat' (first | (refine brt (by assumption) ?_; (conv => arg 1; whnf)) | (refine brf (by assumption) ?_; (conv => arg 1; whnf)) | fail))
  (refine brt ?_ ?_; (focus (exact and2 rfl (and2 (and2 (and2 CB (planRows hp3 hp4)) rfl) (planRows hq3 hq4)); done)); (conv => arg 1; whnf))
  (conv => arg 1; whnf); (repeat' (first | (refine brt (by assumption) ?_; (conv => arg 1; whnf)) | (refine brf (by assumption) ?_; (conv => arg 1; whnf)) | fail))
  (refine brf ?_ ?_; (focus (simp; done)); (conv => arg 1; whnf))
  have CL9 : ((rowsRR eI pl.length fun k => [row eI (pl.getD k [])]).all fun l => decide (l.length ≤ 900)) = true := by rw [rowsRR_row]; exact hlp9
  have CL0 : ((rowsRR eI pl.length fun k => [row eI (pl.getD k [])]).all fun l => decide (l.length ≤ 1000)) = true := by rw [rowsRR_row]; exact hlp
  have eR : leastR2 p.rd car (rowsRR eI pl.length fun k => [row eI (pl.getD k [])]) = leastR2 p car pl := by rw [p.rd_eq, rowsRR_row]
  have eF : leftR p.rd car (rowsRR eI pl.length fun k => [row eI (pl.getD k [])]) = leftR p car pl := by rw [p.rd_eq, rowsRR_row]
  (conv => arg 1; whnf); (repeat' (first | (refine brt (by assumption) ?_; (conv => arg 1; whnf)) | (refine brf (by assumption) ?_; (conv => arg 1; whnf)) | fail))
  (refine brt ?_ ?_; (focus (exact and2 rfl (and2 (and2 (and2 CL9 (planRows hp3 hp4)) rfl) (snapRows hp1 hp2)); done)); (conv => arg 1; whnf))
  (conv => arg 1; whnf); (repeat' (first | (refine brt (by assumption) ?_; (conv => arg 1; whnf)) | (refine brf (by assumption) ?_; (conv => arg 1; whnf)) | fail))
  (refine brt ?_ ?_; (focus (exact and2 rfl (and2 (and2 (and2 CL0 (planRows hp3 hp4)) rfl) (snapRows hp1 hp2)); done)); (conv => arg 1; whnf))
  (conv => arg 1; whnf); (repeat' (first | (refine brt (by assumption) ?_; (conv => arg 1; whnf)) | (refine brf (by assumption) ?_; (conv => arg 1; whnf)) | fail))
  cases hbeg : begOk p car pl with
  | false =>
    have f1 : (!(leftR p.rd car (rowsRR eI pl.length fun k => [row eI (pl.getD k [])])).2) = true := by rw [eF, leftR_no hbeg]; rfl
    have f2 : decide ((leastR2 p.rd car (rowsRR eI pl.length fun k => [row eI (pl.getD k [])])).2 = 9) = true := by rw [eR, leastR2_no hbeg]; rfl
    (conv => arg 1; whnf); (repeat' (first | (refine brt (by assumption) ?_; (conv => arg 1; whnf)) | (refine brf (by assumption) ?_; (conv => arg 1; whnf)) | fail))
    refine finB ?_
    show true = decide ((leastR2 p.rd car (rowsRR eI pl.length fun k => [row eI (pl.getD k [])])).1 = 0)
    rw [eR, leastR2_no hbeg]; rfl
  | true =>
    have f1 : (!(leftR p.rd car (rowsRR eI pl.length fun k => [row eI (pl.getD k [])])).2) = false := by rw [eF, leftR_yes hbeg]; rfl
    have hl2 : leastR2 p car pl = (rleast p car.toNat pl (leftL p.ws.length (ents 0 pl)) (costS p pl (car.toNat + 1) 0), 0) := by unfold leastR2; rw [hbeg]; rfl
    have f2 : decide ((leastR2 p.rd car (rowsRR eI pl.length fun k => [row eI (pl.getD k [])])).2 = 0) = true := by rw [eR, hl2]; rfl
    have CC : leastC p.rd car (rowsRR eI pl.length fun k => [row eI (pl.getD k [])]) (leftR p.rd car (rowsRR eI pl.length fun k => [row eI (pl.getD k [])])).1 = true := by
      rw [eF, leftR_yes hbeg, p.rd_eq, rowsRR_row]; exact leastC_beg hbeg lp1
    have hlen : (leftR p.rd car (rowsRR eI pl.length fun k => [row eI (pl.getD k [])])).1.length < 281474976710656 := by
      rw [eF, leftR_yes hbeg]
      have := leftL_len p.ws.length (ents 0 pl)
      show (leftL p.ws.length (ents 0 pl)).length < 281474976710656
      omega
    (conv => arg 1; whnf); (repeat' (first | (refine brt (by assumption) ?_; (conv => arg 1; whnf)) | (refine brf (by assumption) ?_; (conv => arg 1; whnf)) | fail))
    (refine brt ?_ ?_; (focus (exact and2 (allE rfl rfl rfl rfl (Nat.le_of_eq (Nat.zero_add _))) (and2 (and2 (and2 (and2 (leastC_rows (RowIs.all eI (RowIs.row eI _)) CC) (rowT (RowIs.all eI (RowIs.row eI _)) hlen)) (planRows hp3 hp4)) rfl) (snapRows hp1 hp2)); done)); (conv => arg 1; whnf))
    (conv => arg 1; whnf); (repeat' (first | (refine brt (by assumption) ?_; (conv => arg 1; whnf)) | (refine brf (by assumption) ?_; (conv => arg 1; whnf)) | fail))
    refine finB (decide_eq_true ?_).symm
    show (leastR2 p.rd car (rowsRR eI pl.length fun k => [row eI (pl.getD k [])])).1 = rleast p.rd car.toNat (rowsRR eI pl.length fun k => [row eI (pl.getD k [])]) (rows eI (leftR p.rd car (rowsRR eI pl.length fun k => [row eI (pl.getD k [])])).1.length fun k => eI.enc ((leftR p.rd car (rowsRR eI pl.length fun k => [row eI (pl.getD k [])])).1.getD (0 + k) eI.dflt)) (costS p.rd (rowsRR eI pl.length fun k => [row eI (pl.getD k [])]) (car.toNat + 1) 0)
    rw [(RowIs.all eI (RowIs.row eI (leftR p.rd car (rowsRR eI pl.length fun k => [row eI (pl.getD k [])])).1)).rows eI, eR, eF, hl2, leftR_yes hbeg, p.rd_eq, rowsRR_row]
end Go.Proofs.Ytglpeibbkkikgaa.E
