/- The laws RouteCosts and RouteNext, by the engine. -/
import Derived.Test.YtglpeibbkkikgaaRouteLawE
namespace Go.Proofs.Ytglpeibbkkikgaa.E
open Go NumMath
set_option linter.unusedSimpArgs false
set_option linter.unusedVariables false
set_option maxRecDepth 100000
set_option maxHeartbeats 8000000
theorem waits_sum {p : Snap} {pl : List (List Int)} (hf : feasB p pl = true) (hls : ∀ l ∈ pl, l.length ≤ 1000) : sumL (waitsL p pl) (waitsL p pl).length = (waitsL p pl).sum ∧ 0 ≤ (waitsL p pl).sum ∧ (waitsL p pl).sum ≤ 69002000 * 128 := by
  obtain ⟨hr, _, _, _⟩ := feas_ent hf
  obtain ⟨b1, b2, b3, b4, b5⟩ := Snap.right_bd hr
  have hwl : (waitsL p pl).length = p.ws.length := asgOf_len _ _
  have hwb := waits_bd hf hls
  have h1 := sum_bd (m := 69002000) (by decide) hwb (waitsL p pl).length
  rw [List.take_length] at h1
  refine ⟨?_, h1.1, by have := h1.2; omega⟩
  rw [sumL_eq hwb (by omega) _ (Nat.le_refl _), List.take_length]
theorem RouteCosts (us : List AV) (h : areArgs tt [27, 29] us) : ∃ us', FitL [] [] us' us ∧ runF XL1 Try.f5 us' [] (boo true) [] := by
  obtain ⟨_, _, rfl, hs, _, _, rfl, ha, rfl⟩ := h
  obtain ⟨p, rfl, hp1, hp2⟩ := snap_arg hs
  obtain ⟨pl, hf, hp3, hp4⟩ := plan_arg ha
  refine ⟨[p.av, rrow eI pl], ⟨Fit.al (by repeat' (first | exact True.intro | exact Fit.v _ | exact row_self eRd _ | exact row_self eWn _ | refine And.intro ?_ ?_)), hf, trivial⟩, ?_⟩
  clear hs ha hf
  unfold runF
  (conv => arg 1; whnf); (repeat' (first | (refine brt (by assumption) ?_; (conv => arg 1; whnf)) | (refine brf (by assumption) ?_; (conv => arg 1; whnf)) | fail))
  (refine brt ?_ ?_; (focus (exact and2 rfl (and2 (and2 rfl (planRows hp3 hp4)) (snapRows hp1 hp2)); done)); (conv => arg 1; whnf))
  refine br (fun h => ?_) (fun h => ?_)
  · (conv => arg 1; whnf); (repeat' (first | (refine brt (by assumption) ?_; (conv => arg 1; whnf)) | (refine brf (by assumption) ?_; (conv => arg 1; whnf)) | fail))
    exact finB rfl
  · have h : greatB p.rd (rowsRR eI pl.length fun k => [row eI (pl.getD k [])]) = false := h
    rw [p.rd_eq, rowsRR_row] at h
    obtain ⟨g1, g2, g3, g4⟩ := great_no h
    have hls : ∀ l ∈ pl, l.length ≤ 1000 := fun l hl => by have := g4 l hl; omega
    have hls' : (pl.all fun l => decide (l.length ≤ 1000)) = true := List.all_eq_true.2 fun l hl => decide_eq_true (hls l hl)
    have C1 := and2 (and2 (a := (rowsRR eI pl.length fun k => [row eI (pl.getD k [])]).all fun l => decide (l.length ≤ 1000)) (by rw [rowsRR_row]; exact hls') (planRows hp3 hp4)) (snapRows hp1 hp2)
    have C2 := and2 (and2 (and2 (a := (rowsRR eI pl.length fun k => [row eI (pl.getD k [])]).all fun l => decide (l.length ≤ 1000)) (b := decide (p.rd.ws.length ≤ 100000000)) (by rw [rowsRR_row]; exact hls') (decide_eq_true (by rw [p.rd_eq]; omega))) (planRows hp3 hp4)) (snapRows hp1 hp2)
    have fe : feasB p.rd (rowsRR eI pl.length fun k => [row eI (pl.getD k [])]) = feasB p pl := by rw [p.rd_eq, rowsRR_row]
    (conv => arg 1; whnf); (repeat' (first | (refine brt (by assumption) ?_; (conv => arg 1; whnf)) | (refine brf (by assumption) ?_; (conv => arg 1; whnf)) | fail))
    have w1 : waitsR p.rd (rowsRR eI pl.length fun k => [row eI (pl.getD k [])]) = waitsR p pl := by rw [p.rd_eq, rowsRR_row]
    have w2 : costR p.rd (rowsRR eI pl.length fun k => [row eI (pl.getD k [])]) = costR p pl := by rw [p.rd_eq, rowsRR_row]
    rw [w1, w2]
    refine br (fun h1 => ?_) (fun h1 => ?_)
    · have h1 : (!(feasB p.rd (rowsRR eI pl.length fun k => [row eI (pl.getD k [])]))) = true := h1
      rw [fe] at h1
      have e1 : waitsR p pl = ([], 9) := by unfold waitsR; rw [show feasB p pl = false by simpa using h1]; rfl
      have e2 : costR p pl = (0, 9) := by unfold costR; rw [e1]; rfl
      rw [e1, e2]
      (conv => arg 1; whnf); (repeat' (first | (refine brt (by assumption) ?_; (conv => arg 1; whnf)) | (refine brf (by assumption) ?_; (conv => arg 1; whnf)) | fail))
      exact finB rfl
    · have h1 : (!(feasB p.rd (rowsRR eI pl.length fun k => [row eI (pl.getD k [])]))) = false := h1
      rw [fe] at h1
      have hfea : feasB p pl = true := by simpa using h1
      obtain ⟨k1, k2, k3⟩ := waits_sum hfea hls
      have e1 : waitsR p pl = (waitsL p pl, 0) := by unfold waitsR; rw [hfea]; rfl
      have e2 : costR p pl = ((waitsL p pl).sum, 0) := by unfold costR; rw [e1, ← k1]
      rw [e1, e2]
      obtain ⟨hr, _, _, _⟩ := feas_ent hfea
      obtain ⟨b1, b2, b3, b4, b5⟩ := Snap.right_bd hr
      have hwl : (waitsL p pl).length = p.ws.length := asgOf_len _ _
      have C3 := and2 (and2 (and2 (a := feasB p.rd (rowsRR eI pl.length fun k => [row eI (pl.getD k [])])) (b := (rowsRR eI pl.length fun k => [row eI (pl.getD k [])]).all fun l => decide (l.length ≤ 1000)) (by rw [fe]; exact hfea) (by rw [rowsRR_row]; exact hls')) (planRows hp3 hp4)) (snapRows hp1 hp2)
      have w3 : waitsL p.rd (rowsRR eI pl.length fun k => [row eI (pl.getD k [])]) = waitsL p pl := by rw [p.rd_eq, rowsRR_row]
      (conv => arg 1; whnf); (repeat' (first | (refine brt (by assumption) ?_; (conv => arg 1; whnf)) | (refine brf (by assumption) ?_; (conv => arg 1; whnf)) | fail))
      rw [w3]
      have hrow : RowIs eI (waitsL p pl).length (fun k => eI.enc ((waitsL p pl).getD (0 + k) eI.dflt)) (waitsL p pl) := RowIs.all eI (RowIs.row eI _)
      (refine brt ?_ ?_; (focus (exact and2 (bor2 rfl (Nat.le_of_eq (Nat.zero_add _)) rfl (Nat.le_of_eq (Nat.zero_add _))) (and2 (and2 (by show decide ((rows eI (waitsL p pl).length fun k => eI.enc ((waitsL p pl).getD (0 + k) eI.dflt)).length ≤ 1000000) = true; rw [RowIs.rows eI hrow]; exact decide_eq_true (by omega)) (hrow.isRow eI (by omega))) (hrow.isRow eI (by omega))); done)); (conv => arg 1; whnf))
      refine br (fun h2 => ?_) (fun h2 => ?_)
      · (conv => arg 1; whnf); (repeat' (first | (refine brt (by assumption) ?_; (conv => arg 1; whnf)) | (refine brf (by assumption) ?_; (conv => arg 1; whnf)) | fail))
        rw [w3]
        have k4 : decide ((waitsL p pl).sum = (waitsL p pl).sum) = true := decide_eq_true rfl
        (conv => arg 1; whnf); (repeat' (first | (refine brt (by assumption) ?_; (conv => arg 1; whnf)) | (refine brf (by assumption) ?_; (conv => arg 1; whnf)) | fail))
        refine finB (decide_eq_true ?_).symm
        show (waitsL p pl).sum < 1099511627776
        omega
      · have h2 : decide ((rows eI (waitsL p pl).length fun k => eI.enc ((waitsL p pl).getD (0 + k) eI.dflt)) = (rows eI (waitsL p pl).length fun k => eI.enc ((waitsL p pl).getD (0 + k) eI.dflt))) = false := h2
        simp at h2
theorem next_bd {s : Site} (hs : s.right = true) {a : Stp} {f : Int} {m : Int} (h : 0 ≤ a.lv ∧ a.lv ≤ m) : 0 ≤ (nextS s a f).lv ∧ (nextS s a f).lv ≤ m + 68002 := by
  have hb := Site.right_bd hs
  have ht := Site.travel_bd hs a.fl f
  unfold nextS
  cases ((!(decide (a.he = -1))) && decide (a.fl = f)) <;> simp only [cond] <;> omega
end Go.Proofs.Ytglpeibbkkikgaa.E
