/- Plans as lists: what is planned, in its order; how often a want is planned. -/
import Derived.WalkKit
namespace Go.Proofs.Ytglpeibbkkikgaa.E
/-- What a plan's lists hold, each with its car. -/
def ents : Nat → List (List Int) → List (Int × Nat)
  | _, [] => []
  | c, l :: ls => l.map (fun w => (w, c)) ++ ents (c + 1) ls
/-- What stands ahead of the place j of the car c's list. -/
def pre (pl : List (List Int)) (c j : Nat) : List (Int × Nat) := ents 0 (pl.take c) ++ ((pl.getD c []).take j).map fun w => (w, c)
theorem ents_append (a b : List (List Int)) : ∀ c : Nat, ents c (a ++ b) = ents c a ++ ents (c + a.length) b := by
  induction a with
  | nil => intro c; simp [ents]
  | cons l a ih => intro c; simp only [List.cons_append, ents, ih, List.length_cons, List.append_assoc]; rw [show c + 1 + a.length = c + (a.length + 1) by omega]
theorem pre_zero (pl : List (List Int)) : pre pl 0 0 = [] := by simp [pre, ents]
theorem pre_step {pl : List (List Int)} {c j : Nat} (hj : j < (pl.getD c []).length) : pre pl c (j + 1) = pre pl c j ++ [((pl.getD c []).getD j 0, c)] := by
  unfold pre
  rw [List.take_succ_eq_append_getElem hj, List.map_append, List.append_assoc]
  simp only [List.map_cons, List.map_nil]
  rw [List.getD_eq_getElem?_getD (l := pl.getD c []), List.getElem?_eq_getElem hj, Option.getD_some]
theorem pre_next {pl : List (List Int)} {c : Nat} (hc : c < pl.length) : pre pl c (pl.getD c []).length = pre pl (c + 1) 0 := by
  unfold pre
  rw [List.take_length, List.take_succ_eq_append_getElem hc, ents_append]
  have : pl.getD c [] = pl[c] := by rw [List.getD_eq_getElem?_getD, List.getElem?_eq_getElem hc, Option.getD_some]
  rw [this]
  simp only [ents, List.length_take, Nat.zero_add, List.append_nil, List.take_zero, List.map_nil]
  rw [Nat.min_eq_left (by omega)]
theorem pre_end (pl : List (List Int)) : pre pl pl.length 0 = ents 0 pl := by simp [pre]
theorem pre_rest {pl : List (List Int)} {c j : Nat} (hc : c < pl.length) : ∃ r, ents 0 pl = pre pl c j ++ r := by
  have h1 : ents 0 pl = ents 0 (pl.take c) ++ ents (0 + (pl.take c).length) (pl.drop c) := by rw [← ents_append, List.take_append_drop]
  have h2 : pl.drop c = pl[c] :: pl.drop (c + 1) := List.drop_eq_getElem_cons hc
  have : pl.getD c [] = pl[c] := by rw [List.getD_eq_getElem?_getD, List.getElem?_eq_getElem hc, Option.getD_some]
  refine ⟨((pl[c]).drop j).map (fun w => (w, c)) ++ ents (c + 1) (pl.drop (c + 1)), ?_⟩
  unfold pre
  rw [h1, h2, this]
  simp only [ents, List.length_take, Nat.zero_add]
  rw [Nat.min_eq_left (by omega)]
  simp only [List.append_assoc]
  rw [← List.append_assoc ((pl[c].take j).map _), ← List.map_append, List.take_append_drop]
theorem pre_len {pl : List (List Int)} (h : ∀ l ∈ pl, l.length ≤ 1000) (hp : pl.length ≤ 1000) {c j : Nat} (hj : j ≤ 1000) : (pre pl c j).length ≤ 1001000 := by
  have key : ∀ (ls : List (List Int)) (c : Nat), (∀ l ∈ ls, l.length ≤ 1000) → (ents c ls).length ≤ 1000 * ls.length := by
    intro ls
    induction ls with
    | nil => intro c _; simp [ents]
    | cons l ls ih =>
      intro c hl
      have h1 := hl l List.mem_cons_self
      have h2 := ih (c + 1) fun l hl' => hl l (List.mem_cons_of_mem _ hl')
      simp only [ents, List.length_append, List.length_map, List.length_cons]
      omega
  have h1 := key (pl.take c) 0 fun l hl => h l (List.mem_of_mem_take hl)
  have h2 : (pl.take c).length ≤ 1000 := by simp; omega
  unfold pre
  simp only [List.length_append, List.length_map, List.length_take] at *
  omega
/-- How often a want is planned. -/
def cnt (L : List (Int × Nat)) (i : Nat) : Nat := L.countP fun e => decide (e.1 = (i : Int))
theorem cnt_append (a b : List (Int × Nat)) (i : Nat) : cnt (a ++ b) i = cnt a i + cnt b i := by simp [cnt]
theorem cnt_one (w : Int) (c i : Nat) : cnt [(w, c)] i = if w = (i : Int) then 1 else 0 := by simp [cnt, List.countP_cons]
theorem cnt_le (L : List (Int × Nat)) (i : Nat) : cnt L i ≤ L.length := List.countP_le_length
/-- Which wants are planned. -/
def seenOf (n : Nat) (L : List (Int × Nat)) : List Bool := (List.range n).map fun i => decide (0 < cnt L i)
/-- How often the wants are planned. -/
def cntOf (n : Nat) (L : List (Int × Nat)) : List Int := (List.range n).map fun i => (cnt L i : Int)
theorem getD_range {α : Type} (f : Nat → α) (d : α) {n i : Nat} (h : i < n) : ((List.range n).map f).getD i d = f i := by
  simp [List.getD_eq_getElem?_getD, h]
theorem set_range {α : Type} (f g : Nat → α) (n w : Nat) (a : α) (hw : g w = a) (h : ∀ i, i ≠ w → g i = f i) : ((List.range n).map f).set w a = (List.range n).map g := by
  apply List.ext_getElem?
  intro i
  rw [List.getElem?_set]
  by_cases hi : i < n
  · simp only [List.getElem?_map, List.length_map, List.length_range]
    rw [List.getElem?_range hi]
    by_cases e : w = i
    · subst e
      simp [hi, hw]
    · simp [e, h i (fun e' => e e'.symm)]
  · have h1 : ((List.range n).map f)[i]? = none := List.getElem?_eq_none (by simp; omega)
    have h2 : ((List.range n).map g)[i]? = none := List.getElem?_eq_none (by simp; omega)
    rw [h1, h2]
    by_cases e : w = i
    · subst e; simp; omega
    · simp [e]
theorem seenOf_len (n : Nat) (L : List (Int × Nat)) : (seenOf n L).length = n := by simp [seenOf]
theorem cntOf_len (n : Nat) (L : List (Int × Nat)) : (cntOf n L).length = n := by simp [cntOf]
theorem seenOf_get {n i : Nat} (L : List (Int × Nat)) (d : Bool) (h : i < n) : (seenOf n L).getD i d = decide (0 < cnt L i) := getD_range _ _ h
theorem cntOf_get {n i : Nat} (L : List (Int × Nat)) (d : Int) (h : i < n) : (cntOf n L).getD i d = (cnt L i : Int) := getD_range _ _ h
theorem seenOf_set (n : Nat) (L : List (Int × Nat)) (w : Nat) (c : Nat) : (seenOf n L).set w true = seenOf n (L ++ [((w : Int), c)]) := by
  unfold seenOf
  refine set_range _ _ n w true ?_ fun i hi => ?_
  · rw [cnt_append, cnt_one, if_pos rfl]; simp
  · rw [cnt_append, cnt_one, if_neg (by omega), Nat.add_zero]
theorem cntOf_set (n : Nat) (L : List (Int × Nat)) (w : Nat) (c : Nat) : (cntOf n L).set w ((cnt L w : Int) + 1) = cntOf n (L ++ [((w : Int), c)]) := by
  unfold cntOf
  refine set_range _ _ n w _ ?_ fun i hi => ?_
  · rw [cnt_append, cnt_one, if_pos rfl]; omega
  · rw [cnt_append, cnt_one, if_neg (by omega), Nat.add_zero]
end Go.Proofs.Ytglpeibbkkikgaa.E
