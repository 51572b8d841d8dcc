/- When wants are served; a car that goes on later. -/
import Derived.Test.YtglpeibbkkikgaaRouteNextE
namespace Go.Proofs.Ytglpeibbkkikgaa.E
open Go NumMath
set_option linter.unusedSimpArgs false
set_option linter.unusedVariables false
set_option maxRecDepth 100000
set_option maxHeartbeats 8000000
theorem mem_getD {α : Type} {l : List α} {j : Nat} {d : α} (h : j < l.length) : l.getD j d ∈ l := by
  rw [List.getD_eq_getElem?_getD, List.getElem?_eq_getElem h]; exact List.getElem_mem h
/-! ### When a want is served -/
theorem tpre_fst {p : Snap} {pl : List (List Int)} : ∀ c, c ≤ pl.length → (tpre p pl c 0).map (·.1) = (pre pl c 0).map (·.1) ∧ ∀ j, c < pl.length → j ≤ (pl.getD c []).length → (tpre p pl c j).map (·.1) = (pre pl c j).map (·.1) := by
  have inner : ∀ c, c < pl.length → (tpre p pl c 0).map (·.1) = (pre pl c 0).map (·.1) → ∀ j, j ≤ (pl.getD c []).length → (tpre p pl c j).map (·.1) = (pre pl c j).map (·.1) := by
    intro c hc h0 j
    induction j with
    | zero => intro _; exact h0
    | succ j ih =>
      intro hj
      rw [tpre_step, pre_step (by omega), List.map_append, List.map_append, ih (by omega)]
      rfl
  intro c
  induction c with
  | zero =>
    intro _
    have h0 : (tpre p pl 0 0).map (·.1) = (pre pl 0 0).map (·.1) := by rw [tpre_zero, pre_zero]; rfl
    exact ⟨h0, fun j hc hj => inner 0 hc h0 j hj⟩
  | succ c ih =>
    intro hc
    have h1 := (ih (by omega)).2 (pl.getD c []).length (by omega) (Nat.le_refl _)
    rw [tpre_next, pre_next (by omega)] at h1
    exact ⟨h1, fun j hc' hj => inner (c + 1) hc' h1 j hj⟩
theorem tpre_mono {p : Snap} {pl : List (List Int)} {c : Nat} : ∀ d, ∃ r, tpre p pl (c + d) 0 = tpre p pl c 0 ++ r := by
  intro d
  induction d with
  | zero => exact ⟨[], by simp⟩
  | succ d ih =>
    obtain ⟨r, hr⟩ := ih
    refine ⟨r ++ tc p pl (c + d) (pl.getD (c + d) []).length, ?_⟩
    rw [show c + (d + 1) = (c + d) + 1 by omega, ← tpre_next]
    have : tpre p pl (c + d) (pl.getD (c + d) []).length = tpre p pl (c + d) 0 ++ tc p pl (c + d) (pl.getD (c + d) []).length := by simp [tpre, tc]
    rw [this, hr, List.append_assoc]
theorem tpre_rest {p : Snap} {pl : List (List Int)} {c j : Nat} (hc : c < pl.length) (hj : j ≤ (pl.getD c []).length) : ∃ r, tpre p pl pl.length 0 = tpre p pl c j ++ r := by
  obtain ⟨r, hr⟩ := tpre_mono (p := p) (pl := pl) (c := c + 1) (pl.length - (c + 1))
  rw [show c + 1 + (pl.length - (c + 1)) = pl.length by omega, ← tpre_next] at hr
  have : ∃ r', tpre p pl c (pl.getD c []).length = tpre p pl c j ++ r' := by
    refine ⟨(tc p pl c (pl.getD c []).length).drop j, ?_⟩
    have e : tc p pl c j = (tc p pl c (pl.getD c []).length).take j := by
      unfold tc
      rw [← List.map_take, List.take_range, Nat.min_eq_left hj]
    unfold tpre
    rw [e, List.append_assoc, List.take_append_drop]
  obtain ⟨r', hr'⟩ := this
  exact ⟨r' ++ r, by rw [hr, hr', List.append_assoc]⟩
theorem asg_last {A B : List (Int × Int)} {w t : Int} {i : Nat} (hw : w = (i : Int)) (h : ∀ e ∈ B, e.1 ≠ w) : asg (A ++ [(w, t)] ++ B) i = t := by
  unfold asg
  rw [List.foldl_append, List.foldl_append]
  simp only [List.foldl_cons, List.foldl_nil, hw, if_true]
  induction B with
  | nil => rfl
  | cons e B ih =>
    simp only [List.foldl_cons]
    rw [if_neg (by rw [← hw]; exact h e List.mem_cons_self)]
    exact ih fun e he => h e (List.mem_cons_of_mem _ he)
/-- When a want is served by a plan that may be. -/
theorem wait_at {p : Snap} {pl : List (List Int)} (hf : feasB p pl = true) {c j : Nat} (hc : c < pl.length) (hj : j < (pl.getD c []).length) : 0 ≤ (pl.getD c []).getD j 0 ∧ (pl.getD c []).getD j 0 < (p.ws.length : Int) ∧ (waitsL p pl).getD ((pl.getD c []).getD j 0).toNat 0 = (stAt p c (pl.getD c []) (j + 1)).he := by
  obtain ⟨hr, hpl, hent, hone⟩ := feas_ent hf
  have hg := good_bd (hent c j hc hj)
  refine ⟨hg.1, hg.2, ?_⟩
  unfold waitsL
  rw [asgOf_get _ _ (by omega)]
  obtain ⟨r, hr⟩ := tpre_rest (p := p) hc (j := j + 1) (by omega)
  rw [hr, tpre_step]
  refine asg_last (by omega) fun e he => ?_
  intro e1
  have hcnt := hone ((pl.getD c []).getD j 0).toNat (by omega)
  have hfst : (tpre p pl pl.length 0).map (·.1) = (ents 0 pl).map (·.1) := by rw [(tpre_fst (p := p) pl.length (Nat.le_refl _)).1, pre_end]
  have hc1 : cnt (ents 0 pl) ((pl.getD c []).getD j 0).toNat = ((ents 0 pl).map (·.1)).countP fun x => decide (x = (((pl.getD c []).getD j 0).toNat : Int)) := by
    unfold cnt
    rw [List.countP_map]
    rfl
  rw [hc1, ← hfst, hr, tpre_step] at hcnt
  simp only [List.map_append, List.countP_append, List.map_cons, List.map_nil, List.countP_cons, List.countP_nil] at hcnt
  have hw0 : (pl.getD c []).getD j 0 = (((pl.getD c []).getD j 0).toNat : Int) := by have := hg.1; omega
  rw [if_pos (decide_eq_true hw0)] at hcnt
  have hpos : 0 < (r.map (·.1)).countP fun x => decide (x = (((pl.getD c []).getD j 0).toNat : Int)) := List.countP_pos_iff.2 ⟨e.1, List.mem_map.2 ⟨e, he, rfl⟩, decide_eq_true (by rw [e1]; exact hw0)⟩
  omega
/-! ### A car that goes on later -/
def laterS (p : Snap) (c : Nat) (n : Int) : Snap := ⟨p.s, p.cs.set c ⟨(p.cs.getD c eRd.dflt).fl, (p.cs.getD c eRd.dflt).af + n⟩, p.ws⟩
theorem later_get {p : Snap} {c : Nat} {n : Int} (hc : c < p.cs.length) (i : Nat) : (laterS p c n).cs.getD i eRd.dflt = if i = c then ⟨(p.cs.getD c eRd.dflt).fl, (p.cs.getD c eRd.dflt).af + n⟩ else p.cs.getD i eRd.dflt := by
  simp only [laterS, List.getD_eq_getElem?_getD, List.getElem?_set]
  by_cases h : c = i
  · subst h; simp [hc]
  · rw [if_neg h, if_neg (Ne.symm h)]
theorem later_feas {p : Snap} {pl : List (List Int)} {c : Nat} {n : Int} (hc : c < p.cs.length) (hn : 0 ≤ n) (hm : (p.cs.getD c eRd.dflt).af + n ≤ 1000000) (hf : feasB p pl = true) : feasB (laterS p c n) pl = true := by
  obtain ⟨hr, hpl, hent, hone⟩ := feas_ent hf
  obtain ⟨b1, b2, b3, b4, b5⟩ := Snap.right_bd hr
  have hr' : (laterS p c n).right = true := by
    refine Snap.yes b1 (decide_eq_true (by simp only [laterS, List.length_set]; exact b2)) b3 (fun j hj => ?_) fun j hj => b5 (p.ws.getD j eWn.dflt) (mem_getD (show j < p.ws.length from hj))
    have hj : j < p.cs.length := by simpa [laterS] using hj
    rw [later_get hc]
    have hk := b4 (p.cs.getD j eRd.dflt) (by rw [List.getD_eq_getElem?_getD, List.getElem?_eq_getElem hj]; exact List.getElem_mem hj)
    split
    · rename_i e
      subst e
      unfold rdOk at hk ⊢
      simp only [Bool.and_eq_true, decide_eq_true_eq] at hk ⊢
      exact ⟨hk.1, by omega, hm⟩
    · exact hk
  unfold feasB at hf ⊢
  simp only [Bool.and_eq_true] at hf ⊢
  refine ⟨hr', ?_, hf.2.2.1, hf.2.2.2⟩
  simp only [laterS, List.length_set]
  exact hf.2.1
/-- So many ticks later. -/
def Stp.late (a : Stp) (n : Int) : Stp := ⟨a.fl, if a.he = -1 then -1 else a.he + n, a.lv + n⟩
theorem nextS_same {s : Site} {a : Stp} {f : Int} (h : ¬ a.he = -1) (h' : a.fl = f) : nextS s a f = a := by unfold nextS; rw [decide_eq_false h, decide_eq_true h']; rfl
theorem nextS_go {s : Site} {a : Stp} {f : Int} (h : a.he = -1 ∨ ¬ a.fl = f) : nextS s a f = ⟨f, a.lv + s.travel a.fl f, a.lv + s.travel a.fl f + s.op + s.wa + s.cl + 2⟩ := by
  unfold nextS
  rcases h with h | h
  · rw [decide_eq_true h]; rfl
  · rw [decide_eq_false h]
    cases decide (a.he = -1) <;> rfl
theorem next_late {s : Site} (hs : s.right = true) {a : Stp} {f n : Int} (hn : 0 ≤ n) (h : 0 ≤ a.lv ∧ -1 ≤ a.he) : nextS s (a.late n) f = (nextS s a f).late n := by
  have ht := Site.travel_bd hs a.fl f
  by_cases h1 : a.he = -1
  · rw [nextS_go (.inl h1), nextS_go (.inl (by show (if a.he = -1 then -1 else a.he + n) = -1; rw [if_pos h1]))]
    simp only [Stp.late]
    rw [if_neg (by omega)]
    simp only [Stp.mk.injEq, true_and]
    omega
  · have hl : (a.late n).he = a.he + n := by show (if a.he = -1 then -1 else a.he + n) = _; rw [if_neg h1]
    by_cases h2 : a.fl = f
    · rw [nextS_same h1 h2, nextS_same (by rw [hl]; omega) (show (a.late n).fl = f from h2)]
    · rw [nextS_go (.inr h2), nextS_go (.inr (show ¬ (a.late n).fl = f from h2))]
      simp only [Stp.late]
      rw [if_neg (by omega)]
      simp only [Stp.mk.injEq, true_and]
      omega
theorem later_st {p : Snap} {c : Nat} {n : Int} (hr : p.right = true) (hc : c < p.cs.length) (hn : 0 ≤ n) {l : List Int} {i : Nat} (hi : i < p.cs.length) : ∀ j, j ≤ l.length → stAt (laterS p c n) i l j = if i = c then (stAt p i l j).late n else stAt p i l j := by
  intro j
  induction j with
  | zero =>
    intro _
    rw [stAt_zero, stAt_zero, later_get hc]
    by_cases h : i = c
    · subst h; simp [beginS, Stp.late]
    · rw [if_neg h, if_neg h]
  | succ j ih =>
    intro hj
    obtain ⟨s1, s2, s3, s4, s5⟩ := stAt_bd hr hi l j (by omega)
    rw [stAt_succ _ _ (by omega), stAt_succ _ _ (by omega), ih (by omega)]
    by_cases h : i = c
    · simp only [if_pos h]
      show nextS p.s _ (flr p (l.getD j 0)) = _
      exact next_late (Snap.right_bd hr).1 hn ⟨s1, s3⟩
    · simp only [if_neg h]
      rfl

/-! ### The walk -/
end Go.Proofs.Ytglpeibbkkikgaa.E
