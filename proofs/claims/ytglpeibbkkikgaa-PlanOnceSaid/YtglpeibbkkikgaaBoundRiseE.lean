/- What a beginning costs at least doesn't fall where it goes on; the beginning that is the whole plan costs what the plan costs. -/
import Derived.Test.YtglpeibbkkikgaaBoundLeastE
import Derived.Test.YtglpeibbkkikgaaRouteWaitE
namespace Go.Proofs.Ytglpeibbkkikgaa.E
open Go NumMath
set_option linter.unusedSimpArgs false
set_option linter.unusedVariables false
set_option maxRecDepth 100000
set_option maxHeartbeats 8000000
theorem next_tri {s : Site} (hs : s.right = true) {a : Stp} {g f : Int} (ha : 0 ≤ a.fl ∧ a.fl < s.fl) (hg : 0 ≤ g ∧ g < s.fl) (hf : 0 ≤ f ∧ f < s.fl) (h0 : 0 ≤ a.lv) (hle : a.he ≠ -1 → a.he ≤ a.lv) : (nextS s a f).he ≤ (nextS s (nextS s a g) f).he := by
  have hb := Site.right_bd hs
  by_cases h1 : a.he ≠ -1 ∧ a.fl = g
  · rw [nextS_same h1.1 h1.2]; exact Int.le_refl _
  have hB : nextS s a g = ⟨g, a.lv + s.travel a.fl g, a.lv + s.travel a.fl g + s.op + s.wa + s.cl + 2⟩ := nextS_go (by
    by_cases e : a.he = -1
    · exact .inl e
    · exact .inr fun e2 => h1 ⟨e, e2⟩)
  have t1 := Site.travel_bd hs a.fl g
  have t2 := Site.travel_bd hs g f
  have tri := Site.travel_tri hs ha hg hf
  have hA : (nextS s a f).he ≤ a.lv + s.travel a.fl f := by
    by_cases h2 : a.he ≠ -1 ∧ a.fl = f
    · rw [nextS_same h2.1 h2.2]
      have := hle h2.1
      have := Site.travel_bd hs a.fl f
      omega
    · rw [nextS_go (by
        by_cases e : a.he = -1
        · exact .inl e
        · exact .inr fun e2 => h2 ⟨e, e2⟩)]
      exact Int.le_refl _
  rw [hB]
  by_cases e : g = f
  · subst e
    rw [nextS_same (show ¬ (a.lv + s.travel a.fl g) = -1 by omega) rfl]
    exact hA
  · have hC := nextS_go (s := s) (a := ⟨g, a.lv + s.travel a.fl g, a.lv + s.travel a.fl g + s.op + s.wa + s.cl + 2⟩) (f := f) (.inr e)
    rw [hC]
    show _ ≤ a.lv + s.travel a.fl g + s.op + s.wa + s.cl + 2 + s.travel g f
    omega
theorem flr_in {p : Snap} (hr : p.right = true) {w : Int} (h : inW p w = true) : 0 ≤ flr p w ∧ flr p w < p.s.fl := by
  obtain ⟨b1, b2, b3, b4, b5⟩ := Snap.right_bd hr
  unfold inW at h
  simp only [Bool.and_eq_true, decide_eq_true_eq] at h
  have := b5 (p.ws.getD w.toNat eWn.dflt) (mem_getD (by omega))
  unfold wnOk Site.there at this
  simp only [Bool.and_eq_true, decide_eq_true_eq] at this
  unfold flr
  cases h0 : decide (0 ≤ (p.ws.getD w.toNat eWn.dflt).fl) with
  | false => rw [h0] at this; exact absurd this.1 (by simp)
  | true => rw [h0] at this; exact ⟨of_decide_eq_true h0, of_decide_eq_true this.1⟩
theorem st_fl {p : Snap} (hr : p.right = true) {c : Nat} (hc : c < p.cs.length) {l : List Int} (hl : l.all (inW p) = true) : ∀ j, j ≤ l.length → 0 ≤ (stAt p c l j).fl ∧ (stAt p c l j).fl < p.s.fl := by
  obtain ⟨b1, b2, b3, b4, b5⟩ := Snap.right_bd hr
  intro j
  induction j with
  | zero =>
    intro _
    rw [stAt_zero]
    have := b4 (p.cs.getD c eRd.dflt) (mem_getD hc)
    unfold rdOk Site.there at this
    simp only [Bool.and_eq_true] at this
    cases h0 : decide (0 ≤ (p.cs.getD c eRd.dflt).fl) with
    | false => rw [h0] at this; exact absurd this.1 (by simp)
    | true => rw [h0] at this; exact ⟨of_decide_eq_true h0, of_decide_eq_true this.1⟩
  | succ j ih =>
    intro hj
    have ih := ih (by omega)
    rw [stAt_succ p c (by omega)]
    have hw := flr_in hr (List.all_eq_true.1 hl (l.getD j 0) (mem_getD (by omega)))
    by_cases h1 : (stAt p c l j).he ≠ -1 ∧ (stAt p c l j).fl = flr p (l.getD j 0)
    · rw [nextS_same h1.1 h1.2]; exact ih
    · rw [nextS_go (by
        by_cases e : (stAt p c l j).he = -1
        · exact .inl e
        · exact .inr fun e2 => h1 ⟨e, e2⟩)]
      exact hw
/-- A want is reached no later without a stop more. -/
theorem st_rise {p : Snap} (hr : p.right = true) {c : Nat} (hc : c < p.cs.length) {l : List Int} (hl : l.all (inW p) = true) {j : Nat} (hj : j < l.length) {w : Int} (hw : inW p w = true) : (nextS p.s (stAt p c l j) (flr p w)).he ≤ (nextS p.s (stAt p c l (j + 1)) (flr p w)).he := by
  obtain ⟨b1, _⟩ := Snap.right_bd hr
  have hb := Site.right_bd b1
  have h1 := stAt_bd hr hc l j (by omega)
  rw [stAt_succ p c hj]
  refine next_tri b1 (st_fl hr hc hl j (by omega)) (flr_in hr (List.all_eq_true.1 hl _ (mem_getD hj))) (flr_in hr hw) h1.1 fun e => ?_
  rw [stAt_lv j (by omega) e]
  omega
/-! ### Beginnings -/
/-- The plan's lists ahead of the car k, and so much of its own. -/
def beg (pl : List (List Int)) (k i : Nat) : List (List Int) := (List.range pl.length).map fun c => if c < k then pl.getD c [] else if c = k then (pl.getD k []).take i else []
theorem beg_len (pl : List (List Int)) (k i : Nat) : (beg pl k i).length = pl.length := by simp [beg]
theorem beg_get {pl : List (List Int)} {k i c : Nat} (hc : c < pl.length) : (beg pl k i).getD c [] = if c < k then pl.getD c [] else if c = k then (pl.getD k []).take i else [] := getD_range _ _ hc
theorem beg_ents {pl : List (List Int)} {k i : Nat} (hk : k < pl.length) : ents 0 (beg pl k i) = pre pl k i := by
  have e : beg pl k i = pl.take k ++ [(pl.getD k []).take i] ++ List.replicate (pl.length - (k + 1)) [] := by
    apply List.ext_getElem
    · simp [beg]; omega
    · intro c h1 h2
      have hc : c < pl.length := by simpa [beg] using h1
      have h3 := beg_get (k := k) (i := i) hc
      rw [List.getD_eq_getElem?_getD, List.getElem?_eq_getElem h1, Option.getD_some] at h3
      rw [h3]
      rcases Nat.lt_trichotomy c k with h | rfl | h
      · rw [if_pos h, List.getElem_append_left (by simp; omega), List.getElem_append_left (by simp; omega), List.getElem_take, List.getD_eq_getElem?_getD, List.getElem?_eq_getElem hc, Option.getD_some]
      · rw [if_neg (by omega), if_pos rfl, List.getElem_append_left (by simp; omega), List.getElem_append_right (by simp; omega)]
        simp
      · rw [if_neg (by omega), if_neg (by omega), List.getElem_append_right (by simp; omega), List.getElem_replicate]
  have nil : ∀ m c, ents c (List.replicate m []) = [] := by
    intro m
    induction m with
    | zero => intro c; rfl
    | succ m ih => intro c; rw [List.replicate_succ]; simp only [ents, List.map_nil, List.nil_append]; exact ih _
  rw [e, ents_append, nil, List.append_nil, ents_append]
  unfold pre
  simp only [ents, List.append_nil, List.length_take, Nat.zero_add]
  rw [Nat.min_eq_left (by omega)]
theorem stAt_take (p : Snap) (c : Nat) (l : List Int) (i j : Nat) (h : j ≤ i) : stAt p c (l.take i) j = stAt p c l j := by
  unfold stAt; rw [List.take_take, Nat.min_eq_left h]
theorem getD_take {l : List Int} {i j : Nat} (h : j < i) : (l.take i).getD j 0 = l.getD j 0 := by
  rw [List.getD_eq_getElem?_getD, List.getD_eq_getElem?_getD, List.getElem?_take_of_lt h]
theorem tc_beg {p : Snap} {pl : List (List Int)} {k i : Nat} (hk : k < pl.length) (hi : i ≤ (pl.getD k []).length) : tc p (beg pl k i) k i = tc p pl k i := by
  unfold tc
  rw [beg_get hk, if_neg (by omega), if_pos rfl]
  refine List.map_congr_left fun j hj => ?_
  have hj := List.mem_range.1 hj
  rw [getD_take hj, stAt_take _ _ _ _ _ (by omega)]
theorem tpre_beg {p : Snap} {pl : List (List Int)} {k i : Nat} (hk : k < pl.length) (hi : i ≤ (pl.getD k []).length) : tpre p (beg pl k i) (k + 1) 0 = tpre p pl k i := by
  rw [← tpre_next]
  have e1 : ((beg pl k i).getD k []).length = i := by rw [beg_get hk, if_neg (by omega), if_pos rfl, List.length_take]; omega
  rw [e1]
  unfold tpre
  rw [tc_beg hk hi]
  congr 1
  simp only [List.flatMap]
  congr 1
  refine List.map_congr_left fun c hc => ?_
  have hc := List.mem_range.1 hc
  unfold tc
  rw [beg_get (by omega), if_pos hc]
theorem costS_beg {p : Snap} {pl : List (List Int)} {k i : Nat} (hk : k < pl.length) (hi : i ≤ (pl.getD k []).length) : costS p (beg pl k i) (k + 1) 0 = costS p pl k i := by
  unfold costS; rw [tpre_beg hk hi]
theorem pre_car {pl : List (List Int)} {k i : Nat} (hk : k < pl.length) : ∀ e ∈ pre pl k i, e.2 ≤ k := by
  have key : ∀ (ls : List (List Int)) (c : Nat), ∀ e ∈ ents c ls, e.2 < c + ls.length := by
    intro ls
    induction ls with
    | nil => intro c e he; simp [ents] at he
    | cons l ls ih =>
      intro c e he
      simp only [ents, List.mem_append, List.mem_map] at he
      rcases he with ⟨w, _, rfl⟩ | he
      · simp only [List.length_cons]; omega
      · have := ih (c + 1) e he; simp only [List.length_cons]; omega
  intro e he
  unfold pre at he
  rcases List.mem_append.1 he with he | he
  · have := key _ _ e he
    simp only [List.length_take] at this
    omega
  · obtain ⟨w, _, rfl⟩ := List.mem_map.1 he
    exact Nat.le_refl _
theorem beg_ok {p : Snap} {pl : List (List Int)} (hf : feasB p pl = true) {k i : Nat} (hk : k < pl.length) : begOk p (k : Int) (beg pl k i) = true := by
  have hf' := hf
  unfold feasB at hf'
  simp only [Bool.and_eq_true, decide_eq_true_eq] at hf'
  obtain ⟨hr, hpl, hg, hc⟩ := hf'
  obtain ⟨r, hrest⟩ := pre_rest (j := i) hk
  unfold begOk
  simp only [Bool.and_eq_true, decide_eq_true_eq]
  rw [beg_ents hk, beg_len]
  refine ⟨⟨hr, hpl, by omega, by omega⟩, ?_, ?_⟩
  · refine List.all_eq_true.2 fun e he => ?_
    unfold bgood
    have h1 := List.all_eq_true.1 hg e (by rw [hrest]; exact List.mem_append_left _ he)
    rw [h1, decide_eq_true (by have := pre_car hk e he; omega)]
    rfl
  · refine List.all_eq_true.2 fun j hj => decide_eq_true ?_
    have h1 := of_decide_eq_true (List.all_eq_true.1 hc j hj)
    rw [hrest, cnt_append] at h1
    omega
/-! ### Sums -/
theorem getD_of_mem_range {pl : List (List Int)} {c : Nat} (hc : c < pl.length) : pl.getD c [] ∈ pl := mem_getD hc
theorem feas_inW {p : Snap} {pl : List (List Int)} (hf : feasB p pl = true) {c : Nat} (hc : c < pl.length) : (pl.getD c []).all (inW p) = true := by
  obtain ⟨hr, hpl, hent, hone⟩ := feas_ent hf
  refine List.all_eq_true.2 fun w hw => ?_
  obtain ⟨j, hj, rfl⟩ := List.getElem_of_mem hw
  have := hent c j hc hj
  rw [List.getD_eq_getElem?_getD (l := pl.getD c []), List.getElem?_eq_getElem hj, Option.getD_some] at this
  unfold good at this
  simp only [Bool.and_eq_true, decide_eq_true_eq] at this
  unfold inW
  simp only [Bool.and_eq_true, decide_eq_true_eq]
  exact this.1
theorem feas_may {p : Snap} {pl : List (List Int)} (hf : feasB p pl = true) {c j : Nat} (hc : c < pl.length) (hj : j < (pl.getD c []).length) : mayW p ((pl.getD c []).getD j 0) c = true := by
  obtain ⟨hr, hpl, hent, hone⟩ := feas_ent hf
  have := hent c j hc hj
  unfold good at this
  simp only [Bool.and_eq_true] at this
  exact this.2
theorem feas_new {p : Snap} {pl : List (List Int)} (hf : feasB p pl = true) {c j : Nat} (hc : c < pl.length) (hj : j < (pl.getD c []).length) : cnt (pre pl c j) ((pl.getD c []).getD j 0).toNat = 0 := by
  obtain ⟨hr, hpl, hent, hone⟩ := feas_ent hf
  have hg := good_bd (hent c j hc hj)
  obtain ⟨r, hrest⟩ := pre_rest (j := j + 1) hc
  have h1 := hone ((pl.getD c []).getD j 0).toNat (by omega)
  rw [hrest, pre_step hj, cnt_append, cnt_append, cnt_one, if_pos (by omega)] at h1
  omega
theorem set_sum : ∀ {l : List Int} {i : Nat} (v : Int), i < l.length → l.getD i 0 = 0 → (l.set i v).sum = l.sum + v
  | a :: l, 0, v, _, h => by
    have h : a = 0 := by simpa using h
    simp only [List.set_cons_zero, List.sum_cons, h]; omega
  | a :: l, i + 1, v, hl, h => by
    simp only [List.set_cons_succ, List.sum_cons]
    rw [set_sum v (by simpa using hl) (by simpa using h)]; omega
theorem asg_none {T : List (Int × Int)} {i : Nat} (h : ∀ e ∈ T, e.1 ≠ (i : Int)) : asg T i = 0 := by
  unfold asg
  have : ∀ (T : List (Int × Int)) (v : Int), (∀ e ∈ T, e.1 ≠ (i : Int)) → T.foldl (fun v e => if e.1 = (i : Int) then e.2 else v) v = v := by
    intro T
    induction T with
    | nil => intro v _; rfl
    | cons e T ih =>
      intro v h
      rw [List.foldl_cons, if_neg (h e List.mem_cons_self)]
      exact ih v fun e' he' => h e' (List.mem_cons_of_mem _ he')
  exact this T 0 h
theorem cost_asg {p : Snap} {pl : List (List Int)} (hf : feasB p pl = true) : ∀ c, c ≤ pl.length → ((asgOf p.ws.length (tpre p pl c 0)).sum = costS p pl c 0 ∧ (c < pl.length → ∀ j, j ≤ (pl.getD c []).length → (asgOf p.ws.length (tpre p pl c j)).sum = costS p pl c j)) := by
  have inner : ∀ c, c < pl.length → (asgOf p.ws.length (tpre p pl c 0)).sum = costS p pl c 0 → ∀ j, j ≤ (pl.getD c []).length → (asgOf p.ws.length (tpre p pl c j)).sum = costS p pl c j := by
    intro c hc h0 j
    induction j with
    | zero => intro _; exact h0
    | succ j ih =>
      intro hj
      obtain ⟨hr, hpl, hent, hone⟩ := feas_ent hf
      have hg := good_bd (hent c j hc (by omega))
      have hnew := feas_new hf hc (show j < (pl.getD c []).length by omega)
      have hw : ((((pl.getD c []).getD j 0).toNat : Nat) : Int) = (pl.getD c []).getD j 0 := by omega
      have hnone : asg (tpre p pl c j) ((pl.getD c []).getD j 0).toNat = 0 := asg_none fun e he e1 => by
        have hm : e.1 ∈ (pre pl c j).map (·.1) := by
          rw [← (tpre_fst (p := p) c (by omega)).2 j hc (by omega)]; exact List.mem_map.2 ⟨e, he, rfl⟩
        obtain ⟨e', he', e2⟩ := List.mem_map.1 hm
        have hpos : 0 < cnt (pre pl c j) ((pl.getD c []).getD j 0).toNat := List.countP_pos_iff.2 ⟨e', he', decide_eq_true (e2.trans e1)⟩
        omega
      have hs := asgOf_set p.ws.length (tpre p pl c j) ((pl.getD c []).getD j 0).toNat (stAt p c (pl.getD c []) (j + 1)).he
      rw [hw] at hs
      rw [tpre_step, ← hs, set_sum _ (by rw [asgOf_len]; omega) (by rw [asgOf_get _ _ (by omega)]; exact hnone), ih (by omega), costS_step]
  intro c
  induction c with
  | zero =>
    intro _
    have h0 : (asgOf p.ws.length (tpre p pl 0 0)).sum = costS p pl 0 0 := by
      rw [tpre_zero, costS_zero]
      unfold asgOf
      have : ∀ n, ((List.range n).map (asg [])).sum = 0 := by
        intro n
        induction n with
        | zero => rfl
        | succ n ih => rw [List.range_succ, List.map_append, List.sum_append, ih]; rfl
      exact this _
    exact ⟨h0, fun hc => inner 0 hc h0⟩
  | succ c ih =>
    intro hc
    obtain ⟨h1, h2⟩ := ih (by omega)
    have h3 := h2 (by omega) _ (Nat.le_refl _)
    rw [tpre_next, costS_next] at h3
    exact ⟨h3, fun hc => inner _ hc h3⟩
theorem waits_cost {p : Snap} {pl : List (List Int)} (hf : feasB p pl = true) : (waitsL p pl).sum = costS p pl pl.length 0 := (cost_asg hf pl.length (Nat.le_refl _)).1
theorem costS_part {p : Snap} {pl : List (List Int)} (hf : feasB p pl = true) (hls : ∀ l ∈ pl, l.length ≤ 1000) {c j : Nat} (hc : c < pl.length) (hj : j ≤ (pl.getD c []).length) : 0 ≤ costS p pl c j ∧ costS p pl c j ≤ costS p pl pl.length 0 := by
  obtain ⟨r, hr⟩ := tpre_rest (p := p) hc hj
  have hb := tpre_bd hf hls
  have nn : ∀ T : List (Int × Int), (∀ e ∈ T, 0 ≤ e.2) → 0 ≤ (T.map fun e => e.2).sum := by
    intro T
    induction T with
    | nil => intro _; exact Int.le_refl _
    | cons e T ih =>
      intro h
      have h1 := h e List.mem_cons_self
      have h2 := ih fun e' he' => h e' (List.mem_cons_of_mem _ he')
      simp only [List.map_cons, List.sum_cons]; omega
  unfold costS
  rw [hr, List.map_append, List.sum_append]
  have h1 := nn (tpre p pl c j) fun e he => (hb e (by rw [hr]; exact List.mem_append_left _ he)).1
  have h2 := nn r fun e he => (hb e (by rw [hr]; exact List.mem_append_right _ he)).1
  omega
/-! ### The least cost -/
/-- What is left costs at least so much. -/
def lpS (p : Snap) (pl : List (List Int)) (k i : Nat) : Int := ((leftN p.ws.length (pre pl k i)).map fun w : Nat => lp p k (beg pl k i) (w : Int) (pl.length - k)).sum
def lb (p : Snap) (pl : List (List Int)) (k i : Nat) : Int := costS p pl k i + lpS p pl k i
theorem beg_bdl {pl : List (List Int)} (hls : ∀ l ∈ pl, l.length ≤ 900) (k i : Nat) : ∀ l ∈ beg pl k i, l.length ≤ 900 := by
  intro l hl
  obtain ⟨c, hc, rfl⟩ := List.mem_map.1 hl
  have hc := List.mem_range.1 hc
  split
  · exact hls _ (mem_getD hc)
  · split
    · rename_i h; subst h
      have := hls _ (mem_getD (d := []) hc)
      rw [List.length_take]; omega
    · simp
theorem least_beg {p : Snap} {pl : List (List Int)} (hf : feasB p pl = true) (hls : ∀ l ∈ pl, l.length ≤ 900) {k i : Nat} (hk : k < pl.length) (hi : i ≤ (pl.getD k []).length) : leastR2 p (k : Int) (beg pl k i) = (min 1099511627776 (lb p pl k i), 0) := by
  obtain ⟨hr, hpl, hent, hone⟩ := feas_ent hf
  obtain ⟨b1, b2, b3, b4, b5⟩ := Snap.right_bd hr
  have hls' : ∀ l ∈ pl, l.length ≤ 1000 := fun l hl => by have := hls l hl; omega
  have hw := waits_sum hf hls'
  rw [waits_cost hf] at hw
  have hcp := costS_part hf hls' hk hi
  unfold leastR2
  rw [beg_ok hf hk]
  simp only [cond, Int.toNat_natCast]
  have hlen := leftN_len p.ws.length (pre pl k i)
  rw [costS_beg hk hi, beg_ents hk]
  have hs := rleast_sum hr (pl := beg pl k i) (by rw [beg_len]; exact hpl) (fun c hc => by
    have := beg_bdl hls k i ((beg pl k i).getD c []) (mem_getD hc); omega) (cn := k) (by rw [beg_len]; omega) (leftN p.ws.length (pre pl k i)) (costS p pl k i) hcp.1 (by omega)
  unfold leftL
  rw [hs, beg_len]
  rfl
theorem lp_lim (p : Snap) (car : Nat) (pl : List (List Int)) (w : Int) : ∀ K, lp p car pl w K ≤ 1099511627776
  | 0 => Int.le_refl _
  | K + 1 => by
    have := lp_lim p car pl w K
    simp only [lp]
    split <;> omega
theorem lp_mono {p : Snap} {car : Nat} {pl pl' : List (List Int)} {w : Int} : ∀ {K : Nat}, (∀ c, car ≤ c → c < car + K → candT p pl w c ≤ candT p pl' w c) → lp p car pl w K ≤ lp p car pl' w K
  | 0, _ => Int.le_refl _
  | K + 1, h => by
    have h1 := lp_mono (K := K) (pl := pl) (pl' := pl') fun c h1 h2 => h c h1 (by omega)
    have h2 := h (car + K) (by omega) (by omega)
    simp only [lp]
    split <;> omega
theorem lp_le {p : Snap} {car : Nat} {pl : List (List Int)} {w : Int} {c : Nat} (hm : mayW p w c = true) : ∀ {K : Nat}, car ≤ c → c < car + K → lp p car pl w K ≤ candT p pl w c
  | 0, h1, h2 => by omega
  | K + 1, h1, h2 => by
    simp only [lp]
    by_cases e : c = car + K
    · subst e; rw [if_pos hm]; omega
    · have := lp_le (K := K) hm h1 (pl := pl) (by omega)
      split <;> omega
theorem lp_next {p : Snap} {car : Nat} {pl pl' : List (List Int)} {w : Int} : ∀ {K : Nat}, (∀ c, car + 1 ≤ c → c < car + 1 + K → candT p pl w c ≤ candT p pl' w c) → lp p car pl w (K + 1) ≤ lp p (car + 1) pl' w K
  | 0, _ => lp_lim _ _ _ _ _
  | K + 1, h => by
    have h1 := lp_next (K := K) (pl := pl) (pl' := pl') fun c h1 h2 => h c h1 (by omega)
    have h2 := h (car + 1 + K) (by omega) (by omega)
    rw [show lp p (car + 1) pl' w (K + 1) = (if mayW p w (car + 1 + K) = true then min (lp p (car + 1) pl' w K) (candT p pl' w (car + 1 + K)) else lp p (car + 1) pl' w K) from rfl,
      show lp p car pl w (K + 1 + 1) = (if mayW p w (car + (K + 1)) = true then min (lp p car pl w (K + 1)) (candT p pl w (car + (K + 1))) else lp p car pl w (K + 1)) from rfl, show car + (K + 1) = car + 1 + K by omega]
    split <;> omega
theorem sum_le {f g : Nat → Int} : ∀ {l : List Nat}, (∀ w ∈ l, f w ≤ g w) → (l.map f).sum ≤ (l.map g).sum
  | [], _ => Int.le_refl _
  | w :: l, h => by
    have h1 := h w List.mem_cons_self
    have h2 := sum_le (l := l) (f := f) (g := g) fun w' hw' => h w' (List.mem_cons_of_mem _ hw')
    simp only [List.map_cons, List.sum_cons]; omega
theorem left_inW {p : Snap} {L : List (Int × Nat)} {w : Nat} (h : w ∈ leftN p.ws.length L) : inW p (w : Int) = true := by
  have := (leftN_mem.1 h).1
  unfold inW
  simp only [Bool.and_eq_true, decide_eq_true_eq]
  omega
theorem lb_step {p : Snap} {pl : List (List Int)} (hf : feasB p pl = true) {k i : Nat} (hk : k < pl.length) (hi : i < (pl.getD k []).length) : lb p pl k i ≤ lb p pl k (i + 1) := by
  obtain ⟨hr, hpl, hent, hone⟩ := feas_ent hf
  have hg := good_bd (hent k i hk hi)
  obtain ⟨x, hx⟩ : ∃ x : Nat, (x : Int) = (pl.getD k []).getD i 0 := ⟨((pl.getD k []).getD i 0).toNat, by omega⟩
  have hnew := feas_new hf hk hi
  rw [← hx, Int.toNat_natCast] at hnew
  have hm : x ∈ leftN p.ws.length (pre pl k i) := leftN_mem.2 ⟨by omega, hnew⟩
  have hdel : leftN p.ws.length (pre pl k (i + 1)) = (leftN p.ws.length (pre pl k i)).erase x := by rw [pre_step hi, ← hx, leftN_del]
  have hperm := List.perm_cons_erase hm
  have hcand : ∀ (w : Int), inW p w = true → ∀ c, k ≤ c → c < k + (pl.length - k) → candT p (beg pl k i) w c ≤ candT p (beg pl k (i + 1)) w c := fun w hw c h1 h2 => by
    unfold candT
    rw [beg_get (by omega), beg_get (by omega), if_neg (show ¬ c < k by omega), if_neg (show ¬ c < k by omega)]
    by_cases e : c = k
    · subst e
      rw [if_pos rfl, if_pos rfl, List.length_take, List.length_take, Nat.min_eq_left (by omega), Nat.min_eq_left (by omega), stAt_take _ _ _ _ _ (Nat.le_refl _), stAt_take _ _ _ _ _ (Nat.le_refl _)]
      exact st_rise hr (by omega) (feas_inW hf hk) hi hw
    · rw [if_neg e, if_neg e]; exact Int.le_refl _
  have hx2 : lp p k (beg pl k i) (x : Int) (pl.length - k) ≤ (stAt p k (pl.getD k []) (i + 1)).he := by
    have h1 := lp_le (p := p) (car := k) (pl := beg pl k i) (w := (x : Int)) (c := k) (K := pl.length - k) (by rw [hx]; exact feas_may hf hk hi) (Nat.le_refl _) (by omega)
    refine Int.le_trans h1 (Int.le_of_eq ?_)
    unfold candT
    rw [beg_get hk, if_neg (by omega), if_pos rfl, List.length_take, Nat.min_eq_left (by omega), stAt_take _ _ _ _ _ (Nat.le_refl _), stAt_succ p k hi, hx]
  unfold lb
  rw [costS_step]
  have hsum : lpS p pl k i = lp p k (beg pl k i) (x : Int) (pl.length - k) + (((leftN p.ws.length (pre pl k i)).erase x).map fun w : Nat => lp p k (beg pl k i) (w : Int) (pl.length - k)).sum := by
    unfold lpS
    rw [perm_sum (List.Perm.map (fun w : Nat => lp p k (beg pl k i) (w : Int) (pl.length - k)) hperm), List.map_cons, List.sum_cons]
  have hle : (((leftN p.ws.length (pre pl k i)).erase x).map fun w : Nat => lp p k (beg pl k i) (w : Int) (pl.length - k)).sum ≤ lpS p pl k (i + 1) := by
    unfold lpS
    rw [hdel]
    exact sum_le fun w hw => lp_mono (hcand (w : Int) (left_inW (List.mem_of_mem_erase hw)))
  omega
theorem lb_next {p : Snap} {pl : List (List Int)} (hf : feasB p pl = true) {k : Nat} (hk : k + 1 < pl.length) : lb p pl k (pl.getD k []).length ≤ lb p pl (k + 1) 0 := by
  unfold lb
  rw [costS_next]
  have : lpS p pl k (pl.getD k []).length ≤ lpS p pl (k + 1) 0 := by
    unfold lpS
    rw [pre_next (by omega)]
    refine sum_le fun w hw => ?_
    rw [show pl.length - k = (pl.length - (k + 1)) + 1 by omega]
    refine lp_next fun c h1 h2 => Int.le_of_eq ?_
    unfold candT
    rw [beg_get (by omega), beg_get (by omega), if_neg (show ¬ c < k by omega), if_neg (show ¬ c = k by omega), if_neg (show ¬ c < k + 1 by omega)]
    split
    · rename_i e; subst e; rw [List.take_zero]
    · rfl
  omega
theorem lb_end {p : Snap} {pl : List (List Int)} (hf : feasB p pl = true) {k : Nat} (hk : k + 1 = pl.length) : lb p pl k (pl.getD k []).length = (waitsL p pl).sum := by
  obtain ⟨hr, hpl, hent, hone⟩ := feas_ent hf
  unfold lb
  rw [costS_next, waits_cost hf, hk]
  have : lpS p pl k (pl.getD k []).length = 0 := by
    unfold lpS
    rw [pre_next (by omega), hk, pre_end]
    have : leftN p.ws.length (ents 0 pl) = [] := by
      rw [List.eq_nil_iff_forall_not_mem]
      intro w hw
      have h1 := leftN_mem.1 hw
      have h2 := hone w h1.1
      omega
    rw [this]; rfl
  omega
theorem lb_list {p : Snap} {pl : List (List Int)} (hf : feasB p pl = true) {k : Nat} (hk : k < pl.length) {i : Nat} : ∀ d, i + d ≤ (pl.getD k []).length → lb p pl k i ≤ lb p pl k (i + d)
  | 0, _ => Int.le_refl _
  | d + 1, h => Int.le_trans (lb_list hf hk d (by omega)) (lb_step hf hk (by omega))
theorem lb_all {p : Snap} {pl : List (List Int)} (hf : feasB p pl = true) : ∀ d k i, k + d + 1 = pl.length → i ≤ (pl.getD k []).length → lb p pl k i ≤ (waitsL p pl).sum
  | 0, k, i, h, hi => by
    have h1 := lb_list hf (k := k) (by omega) (i := i) ((pl.getD k []).length - i) (by omega)
    rw [show i + ((pl.getD k []).length - i) = (pl.getD k []).length by omega, lb_end hf (by omega)] at h1
    exact h1
  | d + 1, k, i, h, hi => by
    have h1 := lb_list hf (k := k) (by omega) (i := i) ((pl.getD k []).length - i) (by omega)
    rw [show i + ((pl.getD k []).length - i) = (pl.getD k []).length by omega] at h1
    exact Int.le_trans h1 (Int.le_trans (lb_next hf (by omega)) (lb_all hf d (k + 1) 0 (by omega) (Nat.zero_le _)))
theorem beg_whole {pl : List (List Int)} {k : Nat} (hk : k + 1 = pl.length) : beg pl k (pl.getD k []).length = pl := by
  apply List.ext_getElem
  · rw [beg_len]
  · intro c h1 h2
    have h3 := beg_get (k := k) (i := (pl.getD k []).length) h2
    rw [List.getD_eq_getElem?_getD, List.getElem?_eq_getElem h1, Option.getD_some] at h3
    rw [h3]
    have e : pl[c] = pl.getD c [] := by rw [List.getD_eq_getElem?_getD, List.getElem?_eq_getElem h2, Option.getD_some]
    rw [e]
    split
    · rfl
    · have : c = k := by omega
      subst this
      rw [if_pos rfl, List.take_length]
end Go.Proofs.Ytglpeibbkkikgaa.E
