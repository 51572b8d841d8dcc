/- The law PlanTold, by the engine. -/
import Derived.Test.YtglpeibbkkikgaaSpeakPlanE
import Derived.Test.YtglpeibbkkikgaaRouteLawE
namespace Go.Proofs.Ytglpeibbkkikgaa.E
open Go NumMath
set_option linter.unusedSimpArgs false
set_option linter.unusedVariables false
set_option maxRecDepth 100000
set_option maxHeartbeats 8000000
noncomputable def XPT : Cx := (((((XN0.add 12 .pure (pureCtr (fn0 (giv true (boo true))))).add 13 (.foot reads2) (freshCtr greatG)).add 14 (.foot reads2) (freshCtr srightG)).add 16 (.foot reads2) (freshCtr feasG)).add 15 (.foot reads2) (freshCtr srightG)).add 17 (.foot reads2) (freshCtr feasG)
theorem XPT_ok : CxOk Try.prog XPT := (((((XN0_ok.pure speaks09_ok).fresh great_ok).fresh sright_ok).fresh feas_ok).fresh rsright_ok).fresh rfeas_ok
theorem PlanTold (us : List AV) (h : areArgs tt [27, 29] us) : ∃ us', FitL [] [] us' us ∧ runF XPT Try.f3 us' [] (boo true) [] := by
  obtain ⟨_, _, rfl, hs, _, _, rfl, ha, rfl⟩ := h
  obtain ⟨p, rfl, hp1, hp2⟩ := snap_arg hs
  obtain ⟨pl, hf, hp3, hp4⟩ := plan_arg ha
  refine ⟨[p.av, rrow eI pl], ⟨Fit.al (by repeat' (first | exact True.intro | exact Fit.v _ | exact row_self eRd _ | exact row_self eWn _ | refine And.intro ?_ ?_)), hf, trivial⟩, ?_⟩
  clear hs ha hf
  unfold runF
  (conv => arg 1; whnf); (repeat' (first | (refine brt (by assumption) ?_; (conv => arg 1; whnf)) | (refine brf (by assumption) ?_; (conv => arg 1; whnf)) | fail))
  (refine brt ?_ ?_; (focus (exact and2 rfl (and2 (and2 rfl (planRows hp3 hp4)) (snapRows hp1 hp2)); done)); (conv => arg 1; whnf))
  refine br (fun h => ?_) (fun h => ?_)
  · (conv => arg 1; whnf); (repeat' (first | (refine brt (by assumption) ?_; (conv => arg 1; whnf)) | (refine brf (by assumption) ?_; (conv => arg 1; whnf)) | fail))
    exact finB rfl
  · have h : greatB p.rd (rowsRR eI pl.length fun k => [row eI (pl.getD k [])]) = false := h
    rw [p.rd_eq, rowsRR_row] at h
    obtain ⟨g1, g2, g3, g4⟩ := great_no h
    have hls : ∀ l ∈ pl, l.length ≤ 1000 := fun l hl => by have := g4 l hl; omega
    have hls' : (pl.all fun l => decide (l.length ≤ 1000)) = true := List.all_eq_true.2 fun l hl => decide_eq_true (hls l hl)
    have C1 := and2 (and2 (a := (rowsRR eI pl.length fun k => [row eI (pl.getD k [])]).all fun l => decide (l.length ≤ 1000)) (by rw [rowsRR_row]; exact hls') (planRows hp3 hp4)) (snapRows hp1 hp2)
    have C2 := and2 (a := true) rfl (snapRows hp1 hp2)
    have b1 : (p.rd.right == p.rd.right) = true := by simp
    have b2 : (feasB p.rd (rowsRR eI pl.length fun k => [row eI (pl.getD k [])]) == feasB p.rd (rowsRR eI pl.length fun k => [row eI (pl.getD k [])])) = true := by simp
    (conv => arg 1; whnf); (repeat' (first | (refine brt (by assumption) ?_; (conv => arg 1; whnf)) | (refine brf (by assumption) ?_; (conv => arg 1; whnf)) | fail))
    exact finB (beq_self_eq_true _).symm
end Go.Proofs.Ytglpeibbkkikgaa.E
