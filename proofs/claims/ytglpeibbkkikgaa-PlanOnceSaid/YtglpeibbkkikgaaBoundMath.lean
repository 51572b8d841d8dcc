/- Beginnings of plans, by themselves. -/
import Derived.Test.YtglpeibbkkikgaaRouteLawE
namespace Go.Proofs.Ytglpeibbkkikgaa.E
open Go NumMath
set_option linter.unusedSimpArgs false
set_option linter.unusedVariables false
def bgood (p : Snap) (car : Int) (e : Int × Nat) : Bool := good p e && decide ((e.2 : Int) ≤ car)
def begOk (p : Snap) (car : Int) (pl : List (List Int)) : Bool := (p.right && (decide (pl.length = p.cs.length) && (decide (0 ≤ car) && decide (car < (pl.length : Int))))) && ((ents 0 pl).all (bgood p car) && (List.range p.ws.length).all fun i => decide (cnt (ents 0 pl) i ≤ 1))
theorem beg_no1 {p : Snap} {car : Int} {pl : List (List Int)} (h : ¬ (p.right = true ∧ pl.length = p.cs.length ∧ 0 ≤ car ∧ car < (pl.length : Int))) : begOk p car pl = false := by
  rw [Bool.eq_false_iff]
  intro hb
  unfold begOk at hb
  simp only [Bool.and_eq_true, decide_eq_true_eq] at hb
  exact h hb.1
theorem ent_mem {pl : List (List Int)} {c j : Nat} (hc : c < pl.length) (hj : j < (pl.getD c []).length) : ((pl.getD c []).getD j 0, c) ∈ ents 0 pl := by
  obtain ⟨r, hr⟩ := pre_rest (j := j + 1) hc
  rw [hr, pre_step hj]
  exact List.mem_append_left _ (List.mem_append_right _ (List.mem_singleton.2 rfl))
theorem beg_bad {p : Snap} {car : Int} {pl : List (List Int)} {c j : Nat} (hc : c < pl.length) (hj : j < (pl.getD c []).length) (h : bgood p car ((pl.getD c []).getD j 0, c) = false) : begOk p car pl = false := by
  rw [Bool.eq_false_iff]
  intro hb
  unfold begOk at hb
  simp only [Bool.and_eq_true] at hb
  have := List.all_eq_true.1 hb.2.1 _ (ent_mem hc hj)
  rw [this] at h; cases h
theorem beg_car {p : Snap} {car : Int} {pl : List (List Int)} {c : Nat} (hc : c < pl.length) (hn : 0 < (pl.getD c []).length) (h : car < (c : Int)) : begOk p car pl = false :=
  beg_bad hc hn (by unfold bgood; rw [show decide (((c : Nat) : Int) ≤ car) = false from decide_eq_false (by omega)]; simp)
theorem beg_twice {p : Snap} {car : Int} {pl : List (List Int)} {c j i : Nat} (hc : c < pl.length) (hj : j < (pl.getD c []).length) (hi : i < p.ws.length) (hw : (pl.getD c []).getD j 0 = (i : Int)) (h : 0 < cnt (pre pl c j) i) : begOk p car pl = false := by
  rw [Bool.eq_false_iff]
  intro hb
  unfold begOk at hb
  simp only [Bool.and_eq_true] at hb
  have := of_decide_eq_true (List.all_eq_true.1 hb.2.2 i (List.mem_range.2 hi))
  obtain ⟨r, hr⟩ := pre_rest (j := j + 1) hc
  rw [hr, pre_step hj, cnt_append, cnt_append, hw, cnt_one, if_pos rfl] at this
  omega
/-- The wants that stand in no list. -/
def leftN (n : Nat) (L : List (Int × Nat)) : List Nat := (List.range n).filter fun i => decide (cnt L i = 0)
def leftL (n : Nat) (L : List (Int × Nat)) : List Int := (leftN n L).map fun i : Nat => (i : Int)
theorem leftL_succ (n : Nat) (L : List (Int × Nat)) : leftL (n + 1) L = if cnt L n = 0 then leftL n L ++ [(n : Int)] else leftL n L := by
  unfold leftL leftN
  rw [List.range_succ, List.filter_append, List.map_append]
  split
  · rename_i h; simp [h]
  · rename_i h; simp [h]
theorem leftN_len (n : Nat) (L : List (Int × Nat)) : (leftN n L).length ≤ n := by
  unfold leftN
  exact Nat.le_trans (List.length_filter_le _ _) (by simp)
theorem leftL_len (n : Nat) (L : List (Int × Nat)) : (leftL n L).length ≤ n := by
  unfold leftL; rw [List.length_map]; exact leftN_len n L
def leftR (p : Snap) (car : Int) (pl : List (List Int)) : List Int × Bool := cond (begOk p car pl) (leftL p.ws.length (ents 0 pl), true) ([], false)
theorem leftR_no {p : Snap} {car : Int} {pl : List (List Int)} (h : begOk p car pl = false) : leftR p car pl = ([], false) := by unfold leftR; rw [h]; rfl
theorem leftR_yes {p : Snap} {car : Int} {pl : List (List Int)} (h : begOk p car pl = true) : leftR p car pl = (leftL p.ws.length (ents 0 pl), true) := by unfold leftR; rw [h]; rfl
/-! ### What it costs at least -/
/-- What the lists cost that are ahead. -/
def costS (p : Snap) (pl : List (List Int)) (c j : Nat) : Int := ((tpre p pl c j).map fun e => e.2).sum
theorem costS_zero (p : Snap) (pl : List (List Int)) : costS p pl 0 0 = 0 := by unfold costS; rw [tpre_zero]; rfl
theorem costS_step (p : Snap) (pl : List (List Int)) (c j : Nat) : costS p pl c (j + 1) = costS p pl c j + (stAt p c (pl.getD c []) (j + 1)).he := by
  unfold costS; rw [tpre_step, List.map_append, List.sum_append]; simp
theorem costS_next (p : Snap) (pl : List (List Int)) (c : Nat) : costS p pl c (pl.getD c []).length = costS p pl (c + 1) 0 := by
  unfold costS; rw [tpre_next]
/-- When a car is at a want behind its list. -/
def candT (p : Snap) (pl : List (List Int)) (w : Int) (c : Nat) : Int := (nextS p.s (stAt p c (pl.getD c []) (pl.getD c []).length) (flr p w)).he
def mayW (p : Snap) (w : Int) (c : Nat) : Bool := mayB (p.ws.getD w.toNat eWn.dflt).ca c
/-- The least of these times, of so many cars; -1: none. -/
def lw (p : Snap) (car : Nat) (pl : List (List Int)) (w : Int) : Nat → Int
  | 0 => -1
  | k + 1 => if mayW p w (car + k) = true then (if lw p car pl w k < 0 ∨ candT p pl w (car + k) < lw p car pl w k then candT p pl w (car + k) else lw p car pl w k) else lw p car pl w k
/-- The same, by the limit. -/
def lp (p : Snap) (car : Nat) (pl : List (List Int)) (w : Int) : Nat → Int
  | 0 => 1099511627776
  | k + 1 => if mayW p w (car + k) = true then min (lp p car pl w k) (candT p pl w (car + k)) else lp p car pl w k
theorem candT_bd {p : Snap} (hr : p.right = true) {pl : List (List Int)} (hpl : pl.length = p.cs.length) {c : Nat} (hc : c < pl.length) (hl : (pl.getD c []).length ≤ 1000) (w : Int) : 0 ≤ candT p pl w c ∧ candT p pl w c ≤ 70000000 := by
  have h := stAt_bd hr (by omega : c < p.cs.length) (pl.getD c []) (pl.getD c []).length (Nat.le_refl _)
  obtain ⟨b1, _⟩ := Snap.right_bd hr
  have ht := Site.travel_bd b1 (stAt p c (pl.getD c []) (pl.getD c []).length).fl (flr p w)
  unfold candT nextS
  cases hh : ((!(decide ((stAt p c (pl.getD c []) (pl.getD c []).length).he = -1))) && decide ((stAt p c (pl.getD c []) (pl.getD c []).length).fl = flr p w)) with
  | true =>
    simp only [Bool.and_eq_true, Bool.not_eq_true', decide_eq_false_iff_not] at hh
    show 0 ≤ (stAt p c (pl.getD c []) (pl.getD c []).length).he ∧ (stAt p c (pl.getD c []) (pl.getD c []).length).he ≤ 70000000
    obtain ⟨_, _, h3, h4, _⟩ := h
    have := hh.1
    omega
  | false =>
    show 0 ≤ (stAt p c (pl.getD c []) (pl.getD c []).length).lv + _ ∧ (stAt p c (pl.getD c []) (pl.getD c []).length).lv + _ ≤ 70000000
    obtain ⟨h1, h2, _⟩ := h
    omega
theorem lw_bd {p : Snap} (hr : p.right = true) {pl : List (List Int)} (hpl : pl.length = p.cs.length) (hl : ∀ c, c < pl.length → (pl.getD c []).length ≤ 1000) (car : Nat) (w : Int) : ∀ k, car + k ≤ pl.length → -1 ≤ lw p car pl w k ∧ lw p car pl w k ≤ 70000000 ∧ ((lw p car pl w k = -1 ∧ lp p car pl w k = 1099511627776) ∨ (0 ≤ lw p car pl w k ∧ lp p car pl w k = lw p car pl w k)) := by
  intro k
  induction k with
  | zero => intro _; exact ⟨Int.le_refl _, by show (-1 : Int) ≤ 70000000; omega, .inl ⟨rfl, rfl⟩⟩
  | succ k ih =>
    intro hk
    obtain ⟨h1, h2, h3⟩ := ih (by omega)
    have hc := candT_bd hr hpl (by omega : car + k < pl.length) (hl _ (by omega)) w
    simp only [lw, lp]
    split
    · generalize candT p pl w (car + k) = t at *
      generalize lw p car pl w k = a at *
      generalize lp p car pl w k = b at *
      split <;> omega
    · exact ⟨h1, h2, h3⟩
/-- What a beginning costs at least, by the document. -/
def rleast (p : Snap) (car : Nat) (pl : List (List Int)) : List Int → Int → Int
  | [], n => n
  | w :: ws, n => if lw p car pl w (pl.length - car) < 0 then 1099511627776 else rleast p car pl ws (n + lw p car pl w (pl.length - car))
end Go.Proofs.Ytglpeibbkkikgaa.E
