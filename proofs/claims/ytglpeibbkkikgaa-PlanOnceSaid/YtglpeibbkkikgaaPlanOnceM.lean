/- Plans with a want taken out, put in twice, or elsewhere; lists turned round. -/
import Derived.Test.YtglpeibbkkikgaaRouteAddE
namespace Go.Proofs.Ytglpeibbkkikgaa.E
open Go NumMath
set_option linter.unusedSimpArgs false
set_option linter.unusedVariables false
set_option maxRecDepth 100000
def cntL (l : List Int) (i : Nat) : Nat := l.countP fun x => decide (x = (i : Int))
theorem cnt_ents {i : Nat} : ∀ {pl : List (List Int)} {b : Nat}, cnt (ents b pl) i = (pl.map fun l => cntL l i).sum
  | [], b => rfl
  | l :: ls, b => by
    simp only [ents, cnt_append, List.map_cons, List.sum_cons]
    rw [cnt_ents]
    congr 1
    unfold cnt cntL
    rw [List.countP_map]
    rfl
theorem feas_iff {p : Snap} {pl : List (List Int)} : feasB p pl = true ↔ (p.right = true ∧ pl.length = p.cs.length) ∧ (∀ c x, c < pl.length → x ∈ pl.getD c [] → good p (x, c) = true) ∧ ∀ i, i < p.ws.length → (pl.map fun l => cntL l i).sum = 1 := by
  unfold feasB
  simp only [Bool.and_eq_true, decide_eq_true_eq, List.all_eq_true, List.mem_range, cnt_ents]
  constructor
  · rintro ⟨h1, h2, h3, h4⟩
    refine ⟨⟨h1, h2⟩, fun c x hc hx => ?_, h4⟩
    obtain ⟨j, hj, rfl⟩ := List.getElem_of_mem hx
    have := ent_mem (j := j) hc hj
    rw [List.getD_eq_getElem?_getD (l := pl.getD c []), List.getElem?_eq_getElem hj, Option.getD_some] at this
    exact h3 _ this
  · rintro ⟨⟨h1, h2⟩, h3, h4⟩
    refine ⟨h1, h2, fun e he => ?_, h4⟩
    obtain ⟨c, j, hc, hj, rfl⟩ := ents_of he
    rw [Nat.zero_add]
    exact h3 c _ hc (mem_getD hj)
/-- A list without a want. -/
def remL (l : List Int) (w : Int) : List Int := l.filter fun x => !decide (x = w)
def eqL (l : List Int) (w : Int) : List Int := l.filter fun x => decide (x = w)
def outP (pl : List (List Int)) (w : Int) : List (List Int) := pl.map fun l => remL l w
def twP (pl : List (List Int)) (w : Int) : List (List Int) := pl.map fun l => l ++ eqL l w
theorem cnt_rem {l : List Int} {w i : Nat} : cntL (remL l (w : Int)) i = if i = w then 0 else cntL l i := by
  unfold cntL remL
  rw [List.countP_filter]
  by_cases e : i = w
  · subst e
    rw [if_pos rfl, List.countP_eq_zero]
    intro x _
    by_cases h : x = (i : Int) <;> simp [h]
  · rw [if_neg e]
    refine List.countP_congr fun x _ => ?_
    by_cases h : x = (i : Int)
    · have : ¬ x = (w : Int) := by omega
      simp [h]; omega
    · simp [h]
theorem cnt_eq {l : List Int} {w : Nat} : cntL (eqL l (w : Int)) w = cntL l w := by
  unfold cntL eqL
  rw [List.countP_filter]
  refine List.countP_congr fun x _ => ?_
  by_cases h : x = (w : Int) <;> simp [h]
theorem sum_zero {f : List Int → Nat} : ∀ {pl : List (List Int)}, (∀ l ∈ pl, f l = 0) → (pl.map f).sum = 0
  | [], _ => rfl
  | l :: ls, h => by
    rw [List.map_cons, List.sum_cons, h l List.mem_cons_self, sum_zero fun l' hl => h l' (List.mem_cons_of_mem _ hl)]
theorem sum_two {f : List Int → Nat} : ∀ {pl : List (List Int)}, (pl.map fun l => 2 * f l).sum = 2 * (pl.map f).sum
  | [] => rfl
  | l :: ls => by
    rw [List.map_cons, List.sum_cons, sum_two, List.map_cons, List.sum_cons]; omega
theorem outP_len (pl : List (List Int)) (w : Int) : (outP pl w).length = pl.length := by simp [outP]
theorem twP_len (pl : List (List Int)) (w : Int) : (twP pl w).length = pl.length := by simp [twP]
theorem outP_get {pl : List (List Int)} {w : Int} {c : Nat} (hc : c < pl.length) : (outP pl w).getD c [] = remL (pl.getD c []) w := by
  simp [outP, List.getD_eq_getElem?_getD, hc]
theorem twP_get {pl : List (List Int)} {w : Int} {c : Nat} (hc : c < pl.length) : (twP pl w).getD c [] = pl.getD c [] ++ eqL (pl.getD c []) w := by
  simp [twP, List.getD_eq_getElem?_getD, hc]
theorem out_not {p : Snap} {pl : List (List Int)} {w : Nat} (hw : w < p.ws.length) : feasB p (outP pl (w : Int)) = false := by
  rw [Bool.eq_false_iff]
  intro h
  have := (feas_iff.1 h).2.2 w hw
  unfold outP at this
  rw [List.map_map, sum_zero (f := (fun l => cntL l w) ∘ fun l => remL l (w : Int)) fun l _ => by simp [cnt_rem]] at this
  omega
theorem tw_not {p : Snap} {pl : List (List Int)} (hf : feasB p pl = true) {w : Nat} (hw : w < p.ws.length) : feasB p (twP pl (w : Int)) = false := by
  rw [Bool.eq_false_iff]
  intro h
  have h1 := (feas_iff.1 h).2.2 w hw
  have h2 := (feas_iff.1 hf).2.2 w hw
  unfold twP at h1
  rw [List.map_map] at h1
  have e : ((fun l => cntL l w) ∘ fun l => l ++ eqL l (w : Int)) = fun l => 2 * cntL l w := by
    funext l
    show cntL (l ++ eqL l (w : Int)) w = 2 * cntL l w
    have : cntL (l ++ eqL l (w : Int)) w = cntL l w + cntL (eqL l (w : Int)) w := by simp [cntL]
    rw [this, cnt_eq]; omega
  rw [e, sum_two, h2] at h1
  omega
theorem sum_set {f : List Int → Nat} : ∀ {pl : List (List Int)} {c : Nat} {l' : List Int}, c < pl.length → ((pl.set c l').map f).sum + f (pl.getD c []) = (pl.map f).sum + f l'
  | l :: ls, 0, l', _ => by simp; omega
  | l :: ls, c + 1, l', h => by
    have := sum_set (f := f) (pl := ls) (c := c) (l' := l') (by simpa using h)
    simp only [List.set_cons_succ, List.map_cons, List.sum_cons, List.getD_cons_succ]
    omega
theorem set_get_rows {pl : List (List Int)} {c i : Nat} {l' : List Int} (hc : c < pl.length) : (pl.set c l').getD i [] = if i = c then l' else pl.getD i [] := by
  rw [List.getD_eq_getElem?_getD, List.getElem?_set]
  by_cases e : c = i
  · subst e; rw [if_pos rfl, if_pos hc, if_pos rfl]; rfl
  · rw [if_neg e, if_neg (fun h => e h.symm), ← List.getD_eq_getElem?_getD]
theorem mem_rem {l : List Int} {w x : Int} (h : x ∈ remL l w) : x ∈ l := (List.mem_filter.1 h).1
theorem odd_iff {p : Snap} {pl : List (List Int)} (hf : feasB p pl = true) {w c : Nat} (hw : w < p.ws.length) (hc : c < pl.length) : feasB p ((outP pl (w : Int)).set c (remL (pl.getD c []) (w : Int) ++ [(w : Int)])) = mayB (p.ws.getD w eWn.dflt).ca c := by
  obtain ⟨⟨h1, h2⟩, h3, h4⟩ := feas_iff.1 hf
  have hcl : c < (outP pl (w : Int)).length := by rw [outP_len]; exact hc
  have hsum : ∀ i, i < p.ws.length → (((outP pl (w : Int)).set c (remL (pl.getD c []) (w : Int) ++ [(w : Int)])).map fun l => cntL l i).sum = 1 := by
    intro i hi
    have hs := sum_set (f := fun l => cntL l i) (l' := remL (pl.getD c []) (w : Int) ++ [(w : Int)]) hcl
    rw [outP_get hc] at hs
    have e1 : cntL (remL (pl.getD c []) (w : Int) ++ [(w : Int)]) i = cntL (remL (pl.getD c []) (w : Int)) i + if i = w then 1 else 0 := by
      unfold cntL
      rw [List.countP_append]
      congr 1
      by_cases e : i = w
      · subst e; simp
      · rw [if_neg e]; simp; omega
    have e2 : ((outP pl (w : Int)).map fun l => cntL l i).sum = if i = w then 0 else 1 := by
      unfold outP
      rw [List.map_map]
      by_cases e : i = w
      · rw [if_pos e]; exact sum_zero fun l _ => by simp [cnt_rem, e]
      · rw [if_neg e, ← h4 i hi]
        congr 1
        refine List.map_congr_left fun l _ => ?_
        show cntL (remL l (w : Int)) i = cntL l i
        rw [cnt_rem, if_neg e]
    rw [e1, e2] at hs
    split at hs <;> omega
  cases hm : mayB (p.ws.getD w eWn.dflt).ca c with
  | true =>
    refine feas_iff.2 ⟨⟨h1, by rw [List.length_set, outP_len]; exact h2⟩, fun i x hi hx => ?_, hsum⟩
    rw [List.length_set, outP_len] at hi
    rw [set_get_rows hcl] at hx
    split at hx
    · rename_i e; subst e
      rcases List.mem_append.1 hx with h | h
      · exact h3 i x hi (mem_rem h)
      · obtain rfl := List.mem_singleton.1 h
        unfold good
        simp only [Int.toNat_natCast, hm, Bool.and_true, Bool.and_eq_true, decide_eq_true_eq]
        omega
    · rw [outP_get hi] at hx
      exact h3 i x hi (mem_rem hx)
  | false =>
    rw [Bool.eq_false_iff]
    intro h
    have := (feas_iff.1 h).2.1 c (w : Int) (by rw [List.length_set]; exact hcl) (by rw [set_get_rows hcl, if_pos rfl]; simp)
    unfold good at this
    simp only [Int.toNat_natCast, hm, Bool.and_false] at this
    cases this
theorem turn_feas {p : Snap} {pl : List (List Int)} (hf : feasB p pl = true) {c : Nat} (hc : c < pl.length) : feasB p (pl.set c (pl.getD c []).reverse) = true := by
  obtain ⟨⟨h1, h2⟩, h3, h4⟩ := feas_iff.1 hf
  refine feas_iff.2 ⟨⟨h1, by rw [List.length_set]; exact h2⟩, fun i x hi hx => ?_, fun i hi => ?_⟩
  · rw [List.length_set] at hi
    rw [set_get_rows hc] at hx
    split at hx
    · rename_i e; subst e; exact h3 i x hi (List.mem_reverse.1 hx)
    · exact h3 i x hi hx
  · have hs := sum_set (f := fun l => cntL l i) (l' := (pl.getD c []).reverse) hc
    have e : cntL (pl.getD c []).reverse i = cntL (pl.getD c []) i := by
      unfold cntL; rw [List.countP_reverse]
    rw [e, h4 i hi] at hs
    omega
/-- A list of which so many numbers are turned round at both ends. -/
def revL (l : List Int) (i : Nat) : List Int := (List.range l.length).map fun j => if j < i ∨ l.length ≤ j + i then l.getD (l.length - 1 - j) 0 else l.getD j 0
theorem revL_len (l : List Int) (i : Nat) : (revL l i).length = l.length := by simp [revL]
theorem revL_get {l : List Int} {i j : Nat} (hj : j < l.length) : (revL l i).getD j 0 = if j < i ∨ l.length ≤ j + i then l.getD (l.length - 1 - j) 0 else l.getD j 0 := getD_range _ _ hj
theorem revL_zero (l : List Int) : revL l 0 = l := getD_extI (revL_len l 0) fun j hj => by
  rw [revL_len] at hj
  rw [revL_get hj, if_neg (by omega)]
theorem revL_end {l : List Int} {i : Nat} (h : l.length ≤ 2 * i + 1) : revL l i = l.reverse := getD_extI (by rw [revL_len, List.length_reverse]) fun j hj => by
  rw [revL_len] at hj
  rw [revL_get hj, List.getD_eq_getElem?_getD (l := l.reverse), List.getElem?_reverse hj, ← List.getD_eq_getElem?_getD]
  split
  · rfl
  · congr 1; omega
theorem revL_step {l : List Int} {i j : Nat} (hi : 2 * i + 1 < l.length) (hj : j < l.length) : (revL l (i + 1)).getD j 0 = if j = l.length - 1 - i then (revL l i).getD i 0 else if j = i then (revL l i).getD (l.length - 1 - i) 0 else (revL l i).getD j 0 := by
  rw [revL_get hj, revL_get hj, revL_get (by omega), revL_get (by omega)]
  rw [if_neg (show ¬ (i < i ∨ l.length ≤ i + i) by omega), if_neg (show ¬ (l.length - 1 - i < i ∨ l.length ≤ l.length - 1 - i + i) by omega)]
  by_cases h1 : j = l.length - 1 - i
  · rw [if_pos h1, if_pos (by omega)]; congr 1; omega
  · rw [if_neg h1]
    by_cases h2 : j = i
    · rw [if_pos h2, if_pos (by omega), h2]
    · rw [if_neg h2]
      by_cases h3 : j < i ∨ l.length ≤ j + i
      · rw [if_pos h3, if_pos (by omega)]
      · rw [if_neg h3, if_neg (by omega)]
end Go.Proofs.Ytglpeibbkkikgaa.E
