/- A plan with one want more. -/
import Derived.Test.YtglpeibbkkikgaaRouteWaitE
import Derived.Test.YtglpeibbkkikgaaBoundRiseE
namespace Go.Proofs.Ytglpeibbkkikgaa.E
open Go NumMath
set_option linter.unusedSimpArgs false
set_option linter.unusedVariables false
set_option maxRecDepth 100000
set_option maxHeartbeats 8000000
def moreS (p : Snap) (fl : Int) (c : Nat) : Snap := ⟨p.s, p.cs, p.ws ++ [⟨fl, 2 ^ c⟩]⟩
def insL (l : List Int) (k : Nat) (w : Int) : List Int := l.take k ++ [w] ++ l.drop k
def insP (pl : List (List Int)) (c k : Nat) (w : Int) : List (List Int) := pl.set c (insL (pl.getD c []) k w)
theorem insP_len (pl : List (List Int)) (c k : Nat) (w : Int) : (insP pl c k w).length = pl.length := by simp [insP]
theorem insP_get {pl : List (List Int)} {c k i : Nat} {w : Int} (hc : c < pl.length) : (insP pl c k w).getD i [] = if i = c then insL (pl.getD c []) k w else pl.getD i [] := by
  unfold insP
  rw [List.getD_eq_getElem?_getD, List.getElem?_set]
  by_cases e : c = i
  · subst e; rw [if_pos rfl, if_pos hc, if_pos rfl]; rfl
  · rw [if_neg e, if_neg (fun h => e h.symm), ← List.getD_eq_getElem?_getD]
theorem insL_len {l : List Int} {k : Nat} {w : Int} (hk : k ≤ l.length) : (insL l k w).length = l.length + 1 := by simp [insL]; omega
theorem insL_get {l : List Int} {k j : Nat} {w : Int} (hk : k ≤ l.length) : (insL l k w).getD j 0 = if j < k then l.getD j 0 else if j = k then w else l.getD (j - 1) 0 := by
  unfold insL
  have hl : (l.take k).length = k := by simp; omega
  rcases Nat.lt_trichotomy j k with h | rfl | h
  · rw [if_pos h, List.getD_eq_getElem?_getD, List.append_assoc, List.getElem?_append_left (by omega), ← List.getD_eq_getElem?_getD, getD_take h]
  · rw [if_neg (Nat.lt_irrefl _), if_pos rfl, List.getD_eq_getElem?_getD, List.append_assoc, List.getElem?_append_right (by omega), hl]; simp
  · rw [if_neg (by omega), if_neg (by omega), List.getD_eq_getElem?_getD, List.getElem?_append_right (by simp; omega), List.length_append, hl, List.getElem?_drop, ← List.getD_eq_getElem?_getD]
    congr 1
    simp; omega
theorem insL_take {l : List Int} {k j : Nat} {w : Int} (hk : k ≤ l.length) (hj : j ≤ k) : (insL l k w).take j = l.take j := by
  unfold insL
  rw [List.append_assoc, List.take_append_of_le_length (by simp; omega), List.take_take, Nat.min_eq_left hj]
theorem insL_mem {l : List Int} {k : Nat} {w x : Int} : x ∈ insL l k w ↔ x = w ∨ x ∈ l := by
  unfold insL
  have : x ∈ l ↔ x ∈ l.take k ∨ x ∈ l.drop k := by rw [← List.mem_append, List.take_append_drop]
  simp only [List.mem_append, List.mem_singleton, this]
  constructor
  · rintro ((h | h) | h)
    · exact .inr (.inl h)
    · exact .inl h
    · exact .inr (.inr h)
  · rintro (h | h | h)
    · exact .inl (.inr h)
    · exact .inl (.inl h)
    · exact .inr h
/-! ### It may be -/
theorem ents_of : ∀ {pl : List (List Int)} {b : Nat} {e : Int × Nat}, e ∈ ents b pl → ∃ c j, c < pl.length ∧ j < (pl.getD c []).length ∧ e = ((pl.getD c []).getD j 0, b + c)
  | [], b, e, h => by simp [ents] at h
  | l :: ls, b, e, h => by
    simp only [ents, List.mem_append, List.mem_map] at h
    rcases h with ⟨w, hw, rfl⟩ | h
    · obtain ⟨j, hj, rfl⟩ := List.getElem_of_mem hw
      refine ⟨0, j, by simp, by simpa using hj, ?_⟩
      simp [hj]
    · obtain ⟨c, j, h1, h2, rfl⟩ := ents_of h
      refine ⟨c + 1, j, by simp; omega, by simpa using h2, ?_⟩
      simp; omega
theorem entry_at {p : Snap} {pl : List (List Int)} (hf : feasB p pl = true) {i : Nat} (hi : i < p.ws.length) : ∃ c j, c < pl.length ∧ j < (pl.getD c []).length ∧ (pl.getD c []).getD j 0 = (i : Int) := by
  obtain ⟨hr, hpl, hent, hone⟩ := feas_ent hf
  have h := hone i hi
  have : 0 < (ents 0 pl).countP fun e => decide (e.1 = (i : Int)) := by unfold cnt at h; omega
  obtain ⟨e, he, h2⟩ := List.countP_pos_iff.1 this
  obtain ⟨c, j, h3, h4, rfl⟩ := ents_of he
  exact ⟨c, j, h3, h4, of_decide_eq_true h2⟩
theorem ents_set {pl : List (List Int)} {c : Nat} (hc : c < pl.length) (l' : List Int) : ents 0 pl = ents 0 (pl.take c) ++ (pl.getD c []).map (fun w => (w, c)) ++ ents (c + 1) (pl.drop (c + 1)) ∧ ents 0 (pl.set c l') = ents 0 (pl.take c) ++ l'.map (fun w => (w, c)) ++ ents (c + 1) (pl.drop (c + 1)) := by
  have key : ∀ q : List (List Int), q.length = pl.length → q.take c = pl.take c → q.drop (c + 1) = pl.drop (c + 1) → ents 0 q = ents 0 (pl.take c) ++ (q.getD c []).map (fun w => (w, c)) ++ ents (c + 1) (pl.drop (c + 1)) := by
    intro q hq h1 h2
    have hcq : c < q.length := by omega
    have e1 : q = q.take c ++ (q[c] :: q.drop (c + 1)) := by rw [← List.drop_eq_getElem_cons hcq, List.take_append_drop]
    have e2 : q.getD c [] = q[c] := by rw [List.getD_eq_getElem?_getD, List.getElem?_eq_getElem hcq, Option.getD_some]
    rw [e2]
    conv => lhs; rw [e1]
    rw [ents_append, h1, h2]
    simp only [ents, List.length_take, Nat.zero_add]
    rw [Nat.min_eq_left (by omega), List.append_assoc]
  refine ⟨key pl rfl rfl rfl, ?_⟩
  have := key (pl.set c l') (by simp) (by rw [List.take_set_of_le (Nat.le_refl c)]) (by rw [List.drop_set_of_lt (by omega)])
  rw [this]
  congr 2
  rw [List.getD_eq_getElem?_getD, List.getElem?_set_self hc]; rfl
theorem more_get {p : Snap} {fl : Int} {c i : Nat} : (moreS p fl c).ws.getD i eWn.dflt = if i < p.ws.length then p.ws.getD i eWn.dflt else if i = p.ws.length then ⟨fl, 2 ^ c⟩ else eWn.dflt := by
  show (p.ws ++ [_]).getD i _ = _
  rw [List.getD_eq_getElem?_getD]
  by_cases h : i < p.ws.length
  · rw [if_pos h, List.getElem?_append_left h, ← List.getD_eq_getElem?_getD]
  · rw [if_neg h, List.getElem?_append_right (by omega)]
    by_cases e : i = p.ws.length
    · rw [if_pos e, e, Nat.sub_self]; rfl
    · rw [if_neg e, List.getElem?_eq_none (by simp; omega)]; rfl
theorem more_len (p : Snap) (fl : Int) (c : Nat) : (moreS p fl c).ws.length = p.ws.length + 1 := by simp [moreS]
theorem more_right {p : Snap} (hr : p.right = true) {fl : Int} (hfl : 0 ≤ fl ∧ fl < p.s.fl) {c : Nat} (hc : c < p.cs.length) (hw : p.ws.length ≤ 100) : (moreS p fl c).right = true := by
  obtain ⟨b1, b2, b3, b4, b5⟩ := Snap.right_bd hr
  have hb := Site.right_bd b1
  unfold Snap.right
  simp only [Bool.and_eq_true, decide_eq_true_eq, List.all_eq_true]
  refine ⟨b1, b2, by rw [more_len]; omega, b4, fun x hx => ?_⟩
  have hx : x ∈ p.ws ++ [⟨fl, 2 ^ c⟩] := hx
  rcases List.mem_append.1 hx with h | h
  · exact b5 x h
  · obtain rfl := List.mem_singleton.1 h
    unfold wnOk Site.there
    show (cond (decide (0 ≤ fl)) (decide (fl < p.s.fl)) false && (decide ((1 : Int) ≤ 2 ^ c) && decide ((2 : Int) ^ c < 2 ^ p.s.ca.toNat))) = true
    rw [decide_eq_true hfl.1, decide_eq_true (pow_bd (show c ≤ 8 by omega)).1]
    have : (2 : Int) ^ c < 2 ^ p.s.ca.toNat := by
      have h1 : (2 : Nat) ^ c < 2 ^ p.s.ca.toNat := Nat.pow_lt_pow_right (by decide) (by omega)
      exact_mod_cast h1
    rw [decide_eq_true this]
    simp [hfl.2]
theorem feas_more {p : Snap} {pl : List (List Int)} (hf : feasB p pl = true) {fl : Int} (hfl : 0 ≤ fl ∧ fl < p.s.fl) {c k : Nat} (hc : c < pl.length) (hw : p.ws.length ≤ 100) (hk : k ≤ (pl.getD c []).length) : feasB (moreS p fl c) (insP pl c k (p.ws.length : Int)) = true := by
  have hf' := hf
  unfold feasB at hf'
  simp only [Bool.and_eq_true, decide_eq_true_eq] at hf'
  obtain ⟨hr, hpl, hg, hcnt⟩ := hf'
  obtain ⟨E1, E2⟩ := ents_set hc (insL (pl.getD c []) k (p.ws.length : Int))
  have old : ∀ e ∈ ents 0 pl, good (moreS p fl c) e = true := fun e he => by
    have h1 := List.all_eq_true.1 hg e he
    unfold good at h1 ⊢
    simp only [Bool.and_eq_true, decide_eq_true_eq] at h1 ⊢
    rw [more_len, more_get, if_pos (by omega)]
    exact ⟨⟨h1.1.1, by omega⟩, h1.2⟩
  have hnew : good (moreS p fl c) ((p.ws.length : Int), c) = true := by
    unfold good mayB
    simp only [Bool.and_eq_true, decide_eq_true_eq]
    rw [more_len, more_get, Int.toNat_natCast, if_neg (by omega), if_pos rfl, Int.toNat_natCast]
    refine ⟨⟨by omega, by omega⟩, ?_⟩
    show (2 : Int) ^ c / 2 ^ c % 2 = 1
    rw [Int.ediv_self (Int.ne_of_gt (Int.pow_pos (by decide)))]
    rfl
  unfold feasB
  simp only [Bool.and_eq_true, decide_eq_true_eq]
  refine ⟨more_right hr hfl (by omega) hw, by rw [insP_len]; exact hpl, ?_, ?_⟩
  · refine List.all_eq_true.2 fun e he => ?_
    unfold insP at he
    rw [E2] at he
    rcases List.mem_append.1 he with he | he
    · rcases List.mem_append.1 he with he | he
      · exact old e (by rw [E1]; exact List.mem_append_left _ (List.mem_append_left _ he))
      · obtain ⟨w, hw2, rfl⟩ := List.mem_map.1 he
        rcases insL_mem.1 hw2 with rfl | hw3
        · exact hnew
        · exact old _ (by rw [E1]; exact List.mem_append_left _ (List.mem_append_right _ (List.mem_map.2 ⟨w, hw3, rfl⟩)))
    · exact old e (by rw [E1]; exact List.mem_append_right _ he)
  · refine List.all_eq_true.2 fun i hi => decide_eq_true ?_
    have hi := List.mem_range.1 hi
    rw [more_len] at hi
    have hsum : cnt (ents 0 (insP pl c k (p.ws.length : Int))) i = cnt (ents 0 pl) i + if (p.ws.length : Int) = (i : Int) then 1 else 0 := by
      unfold insP
      rw [E2]
      have h3 : ents 0 pl = ents 0 (pl.take c) ++ ((pl.getD c []).take k ++ (pl.getD c []).drop k).map (fun w => (w, c)) ++ ents (c + 1) (pl.drop (c + 1)) := by rw [List.take_append_drop]; exact E1
      rw [h3]
      unfold insL
      simp only [List.map_append, cnt_append, List.map_cons, List.map_nil, cnt_one]
      omega
    rw [hsum]
    by_cases e : i = p.ws.length
    · have h0 : cnt (ents 0 pl) i = 0 := by
        unfold cnt
        rw [List.countP_eq_zero]
        intro x hx
        have := List.all_eq_true.1 hg x hx
        unfold good at this
        simp only [Bool.and_eq_true, decide_eq_true_eq] at this
        simp only [decide_eq_true_eq]
        omega
      rw [h0, if_pos (by omega)]
    · have := of_decide_eq_true (List.all_eq_true.1 hcnt i (List.mem_range.2 (by omega)))
      rw [this, if_neg (by omega)]
/-! ### When the wants are served -/
theorem stAt_more {p : Snap} {fl : Int} {c i : Nat} {l : List Int} (hl : l.all (inW p) = true) (j : Nat) : stAt (moreS p fl c) i l j = stAt p i l j := by
  have key : ∀ (ls : List Int) (a : Stp), (∀ w ∈ ls, inW p w = true) → (ls.map (flr (moreS p fl c))).foldl (nextS p.s) a = (ls.map (flr p)).foldl (nextS p.s) a := by
    intro ls a h
    congr 1
    refine List.map_congr_left fun w hw => ?_
    have := h w hw
    unfold inW at this
    simp only [Bool.and_eq_true, decide_eq_true_eq] at this
    unfold flr
    rw [more_get, if_pos (by omega)]
  unfold stAt
  exact key _ _ fun w hw => List.all_eq_true.1 hl w (List.mem_of_mem_take hw)
theorem next_fl (s : Site) (a : Stp) (f : Int) : (nextS s a f).fl = f := by
  by_cases h1 : a.he ≠ -1 ∧ a.fl = f
  · rw [nextS_same h1.1 h1.2]; exact h1.2
  · rw [nextS_go (by
      by_cases e : a.he = -1
      · exact .inl e
      · exact .inr fun e2 => h1 ⟨e, e2⟩)]
theorem flr_more {p : Snap} {fl : Int} {c : Nat} {w : Int} (h : inW p w = true) : flr (moreS p fl c) w = flr p w := by
  unfold inW at h
  simp only [Bool.and_eq_true, decide_eq_true_eq] at h
  unfold flr
  rw [more_get, if_pos (by omega)]
theorem flr_new {p : Snap} {fl : Int} {c : Nat} : flr (moreS p fl c) (p.ws.length : Int) = fl := by
  unfold flr
  rw [more_get, Int.toNat_natCast, if_neg (by omega), if_pos rfl]
/-- Ahead of the new want all is as it was. -/
theorem st_ahead {p : Snap} {fl : Int} {c i k : Nat} {l : List Int} {w : Int} (hl : l.all (inW p) = true) (hk : k ≤ l.length) {j : Nat} (hj : j ≤ k) : stAt (moreS p fl c) i (insL l k w) j = stAt p i l j := by
  rw [← stAt_take (moreS p fl c) i (insL l k w) j j (Nat.le_refl _), insL_take hk hj, stAt_take _ _ _ _ _ (Nat.le_refl _), stAt_more hl]
theorem st_behind {p : Snap} (hr : p.right = true) {fl : Int} (hfl : 0 ≤ fl ∧ fl < p.s.fl) {c k : Nat} {l : List Int} (hc : c < p.cs.length) (hw : p.ws.length ≤ 100) (hl : l.all (inW p) = true) (hk : k ≤ l.length) : ∀ d, k + d < l.length → (stAt p c l (k + d + 1)).he ≤ (stAt (moreS p fl c) c (insL l k (p.ws.length : Int)) (k + d + 2)).he := by
  obtain ⟨b1, b2, b3, b4, b5⟩ := Snap.right_bd hr
  have hb := Site.right_bd b1
  have hrt := more_right hr hfl hc hw
  have hil := insL_len (l := l) (w := (p.ws.length : Int)) hk
  have hin : ∀ j, j < l.length → inW p (l.getD j 0) = true := fun j hj => List.all_eq_true.1 hl _ (mem_getD hj)
  have A1 : ∀ j, 1 ≤ j → j ≤ l.length → 0 ≤ (stAt p c l j).he ∧ (stAt p c l j).lv = (stAt p c l j).he + p.s.op + p.s.wa + p.s.cl + 2 := fun j h1 h2 => by
    have h3 := (stAt_bd hr hc l j h2).2.2.2.2 h1
    exact ⟨h3, stAt_lv j h2 (by omega)⟩
  have B1 : ∀ j, 1 ≤ j → j ≤ l.length + 1 → 0 ≤ (stAt (moreS p fl c) c (insL l k (p.ws.length : Int)) j).he ∧ (stAt (moreS p fl c) c (insL l k (p.ws.length : Int)) j).lv = (stAt (moreS p fl c) c (insL l k (p.ws.length : Int)) j).he + p.s.op + p.s.wa + p.s.cl + 2 := fun j h1 h2 => by
    have h3 := (stAt_bd hrt (show c < (moreS p fl c).cs.length from hc) (insL l k (p.ws.length : Int)) j (by omega)).2.2.2.2 h1
    exact ⟨h3, stAt_lv j (by omega) (by omega)⟩
  intro d
  induction d with
  | zero =>
    intro hd
    have e1 : stAt p c l (k + 0 + 1) = nextS p.s (stAt p c l k) (flr p (l.getD k 0)) := stAt_succ p c hd
    have e2 : stAt (moreS p fl c) c (insL l k (p.ws.length : Int)) (k + 0 + 2) = nextS p.s (nextS p.s (stAt p c l k) fl) (flr p (l.getD k 0)) := by
      rw [show k + 0 + 2 = (k + 1) + 1 from rfl, stAt_succ _ _ (by omega), stAt_succ _ _ (by omega), st_ahead hl hk (Nat.le_refl _), insL_get hk, insL_get hk, if_neg (Nat.lt_irrefl _), if_pos rfl, if_neg (show ¬ k + 1 < k by omega), if_neg (show ¬ k + 1 = k by omega), Nat.add_sub_cancel, flr_new, flr_more (hin k (by omega))]
      rfl
    rw [e1, e2]
    have h1 := stAt_bd hr hc l k (by omega)
    refine next_tri b1 (st_fl hr hc hl k (by omega)) hfl (flr_in hr (hin k (by omega))) h1.1 fun e => ?_
    rw [stAt_lv k (by omega) e]
    omega
  | succ d ih =>
    intro hd
    have ih := ih (by omega)
    have e1 : stAt p c l (k + (d + 1) + 1) = nextS p.s (stAt p c l (k + d + 1)) (flr p (l.getD (k + d + 1) 0)) := stAt_succ p c hd
    have e2 : stAt (moreS p fl c) c (insL l k (p.ws.length : Int)) (k + (d + 1) + 2) = nextS p.s (stAt (moreS p fl c) c (insL l k (p.ws.length : Int)) (k + d + 2)) (flr p (l.getD (k + d + 1) 0)) := by
      rw [show k + (d + 1) + 2 = (k + d + 2) + 1 by omega, stAt_succ _ _ (by omega), insL_get hk, if_neg (show ¬ k + d + 2 < k by omega), if_neg (show ¬ k + d + 2 = k by omega), show k + d + 2 - 1 = k + d + 1 by omega, flr_more (hin _ (by omega))]
      rfl
    have f1 : (stAt p c l (k + d + 1)).fl = flr p (l.getD (k + d) 0) := by rw [stAt_succ p c (by omega)]; exact next_fl _ _ _
    have f2 : (stAt (moreS p fl c) c (insL l k (p.ws.length : Int)) (k + d + 2)).fl = flr p (l.getD (k + d) 0) := by
      rw [stAt_succ _ _ (by omega)]
      refine (next_fl _ _ _).trans ?_
      rw [insL_get hk, if_neg (show ¬ k + d + 1 < k by omega), if_neg (show ¬ k + d + 1 = k by omega), show k + d + 1 - 1 = k + d by omega, flr_more (hin _ (by omega))]
    obtain ⟨a1, a2⟩ := A1 (k + d + 1) (by omega) (by omega)
    obtain ⟨c1, c2⟩ := B1 (k + d + 2) (by omega) (by omega)
    rw [e1, e2]
    generalize stAt p c l (k + d + 1) = A at *
    generalize stAt (moreS p fl c) c (insL l k (p.ws.length : Int)) (k + d + 2) = B at *
    generalize flr p (l.getD (k + d + 1) 0) = f at *
    by_cases e : A.fl = f
    · rw [nextS_same (by omega) e, nextS_same (by omega) (by rw [f2, ← f1]; exact e)]; exact ih
    · rw [nextS_go (.inr e), nextS_go (a := B) (.inr (by rw [f2, ← f1]; exact e))]
      show A.lv + p.s.travel A.fl f ≤ B.lv + p.s.travel B.fl f
      rw [f2, ← f1]
      omega
theorem waits_more {p : Snap} {pl : List (List Int)} (hf : feasB p pl = true) {fl : Int} (hfl : 0 ≤ fl ∧ fl < p.s.fl) {c k : Nat} (hc : c < pl.length) (hw : p.ws.length ≤ 100) (hk : k ≤ (pl.getD c []).length) {i : Nat} (hi : i < p.ws.length) :
    (waitsL p pl).getD i 0 ≤ (waitsL (moreS p fl c) (insP pl c k (p.ws.length : Int))).getD i 0 ∧ (k = (pl.getD c []).length → (waitsL p pl).getD i 0 = (waitsL (moreS p fl c) (insP pl c k (p.ws.length : Int))).getD i 0) := by
  obtain ⟨hr, hpl, hent, hone⟩ := feas_ent hf
  have hf2 := feas_more hf hfl hc hw hk
  obtain ⟨c', j, h1, h2, h3⟩ := entry_at hf hi
  have w1 := (wait_at hf h1 h2).2.2
  rw [h3, Int.toNat_natCast] at w1
  have hin := feas_inW hf h1
  have hget := insP_get (k := k) (i := c') (w := (p.ws.length : Int)) hc
  by_cases e : c' = c
  · subst e
    rw [if_pos rfl] at hget
    have hil := insL_len (l := pl.getD c' []) (w := (p.ws.length : Int)) hk
    by_cases hjk : j < k
    · have w2 := (wait_at hf2 (c := c') (j := j) (by rw [insP_len]; exact h1) (by rw [hget, hil]; omega)).2.2
      rw [hget, insL_get hk, if_pos hjk, h3, Int.toNat_natCast, st_ahead hin hk (by omega)] at w2
      rw [w1, w2]
      exact ⟨Int.le_refl _, fun _ => rfl⟩
    · have w2 := (wait_at hf2 (c := c') (j := j + 1) (by rw [insP_len]; exact h1) (by rw [hget, hil]; omega)).2.2
      rw [hget, insL_get hk, if_neg (show ¬ j + 1 < k by omega), if_neg (show ¬ j + 1 = k by omega), Nat.add_sub_cancel, h3, Int.toNat_natCast] at w2
      rw [w1, w2]
      have := st_behind hr hfl (by omega : c' < p.cs.length) hw hin hk (j - k) (by omega)
      rw [show k + (j - k) + 1 = j + 1 by omega, show k + (j - k) + 2 = j + 1 + 1 by omega] at this
      exact ⟨this, fun e => by omega⟩
  · rw [if_neg e] at hget
    have w2 := (wait_at hf2 (c := c') (j := j) (by rw [insP_len]; exact h1) (by rw [hget]; exact h2)).2.2
    rw [hget, h3, Int.toNat_natCast, stAt_more hin] at w2
    rw [w1, w2]
    exact ⟨Int.le_refl _, fun _ => rfl⟩
theorem sum_getD_le : ∀ {a b : List Int}, a.length ≤ b.length → (∀ i, i < a.length → a.getD i 0 ≤ b.getD i 0) → a.sum ≤ (b.take a.length).sum
  | [], _, _, _ => by simp
  | x :: a, [], h, _ => by simp at h
  | x :: a, y :: b, h, hg => by
    have h1 := hg 0 (by simp)
    have h2 := sum_getD_le (a := a) (b := b) (by simpa using h) fun i hi => by simpa using hg (i + 1) (by simpa using hi)
    simp only [List.getD_cons_zero] at h1
    simp only [List.length_cons, List.take_succ_cons, List.sum_cons]; omega
theorem cost_more {p : Snap} {pl : List (List Int)} (hf : feasB p pl = true) {fl : Int} (hfl : 0 ≤ fl ∧ fl < p.s.fl) {c k : Nat} (hc : c < pl.length) (hw : p.ws.length ≤ 100) (hk : k ≤ (pl.getD c []).length) :
    (waitsL p pl).sum + (waitsL (moreS p fl c) (insP pl c k (p.ws.length : Int))).getD p.ws.length 0 ≤ (waitsL (moreS p fl c) (insP pl c k (p.ws.length : Int))).sum ∧ (k = (pl.getD c []).length → (waitsL p pl).sum + (waitsL (moreS p fl c) (insP pl c k (p.ws.length : Int))).getD p.ws.length 0 = (waitsL (moreS p fl c) (insP pl c k (p.ws.length : Int))).sum) := by
  obtain ⟨A, hA⟩ : ∃ A, A = waitsL p pl := ⟨_, rfl⟩
  obtain ⟨B, hB⟩ : ∃ B, B = waitsL (moreS p fl c) (insP pl c k (p.ws.length : Int)) := ⟨_, rfl⟩
  have hAl : A.length = p.ws.length := by rw [hA]; exact asgOf_len _ _
  have hBl : B.length = p.ws.length + 1 := by rw [hB]; exact (asgOf_len _ _).trans (more_len p fl c)
  have hm := fun i hi => waits_more hf hfl hc hw hk (i := i) hi
  rw [← hA, ← hB] at *
  have hs : B.sum = (B.take A.length).sum + B.getD p.ws.length 0 := by
    have := take_sum (l := B) (k := A.length) (by omega)
    rw [show A.length + 1 = B.length by omega, List.take_length] at this
    rw [this, hAl]
  have h1 := sum_getD_le (a := A) (b := B) (by omega) fun i hi => (hm i (by omega)).1
  refine ⟨by omega, fun hkl => ?_⟩
  have h2 := sum_getD_le (a := B.take A.length) (b := A) (by simp; omega) fun i hi => by
    rw [List.length_take] at hi
    rw [getD_take (by omega)]
    exact Int.le_of_eq ((hm i (by omega)).2 hkl).symm
  rw [List.length_take, Nat.min_eq_left (by omega), List.take_length] at h2
  omega
end Go.Proofs.Ytglpeibbkkikgaa.E
