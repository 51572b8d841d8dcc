/- Sets of floors by their bits: what is left of them from below, and from above. -/
import Derived.Test.YtaneamfnjhiigaaDoorFloorsMath
namespace Go.Proofs.YtaneamfnjhiigaaDoor.E
open Go
set_option linter.unusedVariables false
set_option linter.unusedSimpArgs false
def bt (x : Int) (i : Nat) : Bool := (BitVec.ofInt 64 x).getLsbD i
def okU (x : Int) : Prop := 0 ≤ x ∧ x < 18446744073709551616
theorem okU_wrap (n : Int) : okU (IntKind.u64.wrap n) := by unfold okU; rw [wrapU]; omega
theorem okU_and (a b : Int) : okU (bits .and .u64 a b) := okU_wrap _
theorem okU_andNot (a b : Int) : okU (bits .andNot .u64 a b) := okU_wrap _
theorem okU_wout (b f : Int) : okU (woutF b f) := okU_wrap _
theorem okU_with (b f : Int) : okU (withF b f) := okU_wrap _
theorem has_bt {x : Int} {i : Nat} (h : i < 64) : hasF x (i : Int) = bt x i := by rw [hasF_eq (by omega) (by omega)]; rfl
theorem bt_out (x : Int) {i : Nat} (h : 64 ≤ i) : bt x i = false := BitVec.getLsbD_of_ge _ _ h
theorem bt_and (a b : Int) (i : Nat) : bt (bits .and .u64 a b) i = (bt a i && bt b i) := by
  have hd : bits .and .u64 a b = IntKind.u64.wrap ((BitVec.ofInt 64 a &&& BitVec.ofInt 64 b).toNat : Int) := rfl
  unfold bt
  rw [hd, ofU, BitVec.getLsbD_and]
theorem bt_andNot (a b : Int) {i : Nat} (hi : i < 64) : bt (bits .andNot .u64 a b) i = (bt a i && !bt b i) := by
  have hd : bits .andNot .u64 a b = IntKind.u64.wrap ((BitVec.ofInt 64 a &&& ~~~ BitVec.ofInt 64 b).toNat : Int) := rfl
  unfold bt
  rw [hd, ofU, BitVec.getLsbD_and, BitVec.getLsbD_not]
  simp [hi]
theorem bt_wout (b : Int) {f : Int} {i : Nat} (f0 : 0 ≤ f) (f1 : f < 64) (hi : i < 64) : bt (woutF b f) i = (bt b i && !(decide (f = (i : Int)))) := by
  rw [← has_bt hi, ← has_bt hi, has_wout f0 f1 (by omega) (by omega)]
theorem bt_with (b : Int) {f : Int} {i : Nat} (f0 : 0 ≤ f) (f1 : f < 64) (hi : i < 64) : bt (withF b f) i = (bt b i || decide (f = (i : Int))) := by
  rw [← has_bt hi, ← has_bt hi, has_with f0 f1 (by omega) (by omega)]
theorem bt_toNat {x : Int} (h : okU x) (i : Nat) : bt x i = x.toNat.testBit i := by
  obtain ⟨n, rfl⟩ : ∃ n : Nat, x = (n : Int) := ⟨x.toNat, by unfold okU at h; omega⟩
  unfold okU at h
  unfold bt
  rw [BitVec.ofInt_natCast, ← BitVec.testBit_toNat, BitVec.toNat_ofNat, Int.toNat_natCast, Nat.mod_eq_of_lt (by omega)]
theorem bv_ne {x : Int} (h : okU x) (hx : ¬ x = 0) : BitVec.ofInt 64 x ≠ 0#64 := fun e => by
  have := congrArg BitVec.toNat e
  unfold okU at h
  rw [BitVec.toNat_ofInt] at this
  simp at this
  omega
theorem eq_of_bt {x y : Int} (hx : okU x) (hy : okU y) (h : ∀ i, i < 64 → bt x i = bt y i) : x = y := by
  have e : BitVec.ofInt 64 x = BitVec.ofInt 64 y := BitVec.eq_of_getLsbD_eq fun i hi => h i hi
  have := congrArg BitVec.toNat e
  unfold okU at hx hy
  rw [BitVec.toNat_ofInt, BitVec.toNat_ofInt] at this
  omega
theorem zero_of_bt {x : Int} (hx : okU x) (h : ∀ i, i < 64 → bt x i = false) : x = 0 := eq_of_bt hx ⟨by decide, by decide⟩ fun i hi => by rw [h i hi]; unfold bt; simp
theorem bt_zero (i : Nat) : bt 0 i = false := by unfold bt; simp
/-- The lowest one. -/
theorem low_bt {x : Int} (h : okU x) (hx : ¬ x = 0) : lowI x < 64 ∧ bt x (lowI x) = true ∧ ∀ j, j < lowI x → bt x j = false := low_spec (bv_ne h hx)
/-- Without the lowest one. -/
theorem pred_bt {x : Int} (h : okU x) (hx : ¬ x = 0) {i : Nat} (hi : i < 64) : bt (bits .and .u64 x (IntKind.u64.wrap (x - 1))) i = (bt x i && !(decide (i = lowI x))) := by
  obtain ⟨_, h1, h0⟩ := low_spec (bv_ne h hx)
  have hd : bits .and .u64 x (IntKind.u64.wrap (x - 1)) = IntKind.u64.wrap ((BitVec.ofInt 64 x &&& BitVec.ofInt 64 (IntKind.u64.wrap (x - 1))).toNat : Int) := rfl
  have e : BitVec.ofInt 64 (IntKind.u64.wrap (x - 1)) = BitVec.ofInt 64 x - 1#64 := by
    rw [ofI_wrap]
    apply BitVec.eq_of_toNat_eq
    unfold okU at h
    rw [BitVec.toNat_ofInt, BitVec.toNat_sub, BitVec.toNat_ofInt]
    simp only [BitVec.toNat_ofNat]
    omega
  unfold bt
  rw [hd, ofU, e, and_pred h1 h0 i hi]
/-- The highest one. -/
def topI (x : Int) : Nat := x.toNat.log2
theorem top_len {x : Int} (hx : ¬ x = 0) : IntKind.i64.wrap (lenI x - 1) = (topI x : Int) ∨ 64 ≤ topI x := by
  unfold lenI topI
  rw [if_neg hx]
  rcases Nat.lt_or_ge x.toNat.log2 64 with h | h
  · refine .inl ?_
    rw [IntKind.wrap_i64]
    omega
  · exact .inr h
theorem top_bt {x : Int} (h : okU x) (hx : ¬ x = 0) : topI x < 64 ∧ bt x (topI x) = true ∧ ∀ j, topI x < j → bt x j = false := by
  unfold okU at h
  have hn : x.toNat ≠ 0 := by omega
  have h1 : x.toNat.log2 < 64 := (Nat.log2_lt hn).2 (by omega)
  refine ⟨h1, ?_, fun j hj => ?_⟩
  · rw [bt_toNat h]; exact Nat.testBit_log2 hn
  · rw [bt_toNat h]
    refine Nat.testBit_lt_two_pow (Nat.lt_of_lt_of_le Nat.lt_log2_self (Nat.pow_le_pow_right (by decide) ?_))
    unfold topI at hj; omega
/-- The floors from one on, below m; and from one down, the uppermost j of them. -/
def upL (s fr : Int) (m : Nat) : List Int := ((List.range m).filter fun i => bt s i && decide (fr ≤ (i : Int))).map fun i : Nat => ((i : Nat) : Int)
def dnL (s fr : Int) (j : Nat) : List Int := ((List.range j).filter fun i => bt s (63 - i) && decide (((63 - i : Nat) : Int) ≤ fr)).map fun i : Nat => ((63 - i : Nat) : Int)
theorem filter_range {p : Nat → Bool} {m t : Nat} (hmt : m ≤ t) (h : ∀ i, m ≤ i → i < t → p i = false) : (List.range t).filter p = (List.range m).filter p := by
  obtain ⟨d, rfl⟩ : ∃ d, t = m + d := ⟨t - m, by omega⟩
  induction d with
  | zero => rfl
  | succ d ih =>
    rw [← Nat.add_assoc, List.range_succ, List.filter_append, ih (by omega) fun i h1 h2 => h i h1 (by omega)]
    simp [h (m + d) (by omega) (by omega)]
theorem filter_range1 {p : Nat → Bool} {m t : Nat} (hmt : m ≤ t) (h : ∀ i, m ≤ i → i < t → p i = false) (ht : p t = true) : (List.range (t + 1)).filter p = (List.range m).filter p ++ [t] := by
  rw [List.range_succ, List.filter_append, filter_range hmt h]
  simp [ht]
theorem filter_prefix (p : Nat → Bool) {m t : Nat} (hmt : m ≤ t) : ∃ r, (List.range t).filter p = (List.range m).filter p ++ r := by
  obtain ⟨d, rfl⟩ : ∃ d, t = m + d := ⟨t - m, by omega⟩
  induction d with
  | zero => exact ⟨[], by simp⟩
  | succ d ih =>
    obtain ⟨r, hr⟩ := ih (by omega)
    rw [← Nat.add_assoc, List.range_succ, List.filter_append, hr]
    exact ⟨_, List.append_assoc _ _ _⟩
/-- What is left of the floors from one on, where those below m are gone. -/
structure UpI (s fr : Int) (m : Nat) (x : Int) : Prop where
  ok : okU x
  le : m ≤ 64
  bt : ∀ i, i < 64 → bt x i = (bt s i && (decide (fr ≤ (i : Int)) && decide (m ≤ i)))
theorem UpI.zero {s fr x : Int} (ok : okU x) (h : ∀ i, i < 64 → E.bt x i = (E.bt s i && decide (fr ≤ (i : Int)))) : UpI s fr 0 x := ⟨ok, by decide, fun i hi => by rw [h i hi]; simp⟩
theorem UpI.next {s fr x : Int} {m : Nat} (h : UpI s fr m x) (hx : ¬ x = 0) : m ≤ lowI x ∧ lowI x < 64 ∧ E.bt s (lowI x) = true ∧ fr ≤ (lowI x : Int) ∧ upL s fr (lowI x + 1) = upL s fr m ++ [(lowI x : Int)] ∧ UpI s fr (lowI x + 1) (bits .and .u64 x (IntKind.u64.wrap (x - 1))) := by
  obtain ⟨l1, l2, l3⟩ := low_bt h.ok hx
  have h1 := h.bt _ l1
  rw [l2] at h1
  have h1 := h1.symm
  simp only [Bool.and_eq_true, decide_eq_true_eq] at h1
  obtain ⟨h2, h3, h4⟩ := h1
  refine ⟨h4, l1, h2, h3, ?_, okU_and _ _, by omega, fun i hi => ?_⟩
  · unfold upL
    rw [filter_range1 h4 (fun i h5 h6 => ?_) (by rw [h2, decide_eq_true h3]; rfl), List.map_append]
    · rfl
    · have := h.bt i (by omega)
      rw [l3 i h6, decide_eq_true h5, Bool.and_true] at this
      exact this.symm
  · rw [pred_bt h.ok hx hi, h.bt i hi]
    by_cases hlt : i < lowI x
    · have := h.bt i hi
      rw [l3 i hlt] at this
      rw [← this, decide_eq_false (by omega : ¬ lowI x + 1 ≤ i)]; simp
    · by_cases he : i = lowI x
      · rw [decide_eq_true he, decide_eq_false (by omega : ¬ lowI x + 1 ≤ i)]; simp
      · rw [decide_eq_false he, decide_eq_true (by omega : lowI x + 1 ≤ i), decide_eq_true (by omega : m ≤ i)]; simp
theorem UpI.fin {s fr : Int} {m : Nat} (h : UpI s fr m 0) : upL s fr 64 = upL s fr m := by
  unfold upL
  rw [filter_range h.le fun i h1 h2 => ?_]
  have := h.bt i h2
  rw [bt_zero, decide_eq_true h1, Bool.and_true] at this
  exact this.symm
/-- What is left of the floors from one down, where the uppermost j are gone. -/
structure DnI (s fr : Int) (j : Nat) (x : Int) : Prop where
  ok : okU x
  le : j ≤ 64
  bt : ∀ i, i < 64 → bt x i = (bt s i && (decide ((i : Int) ≤ fr) && decide (i < 64 - j)))
theorem DnI.zero {s fr x : Int} (ok : okU x) (h : ∀ i, i < 64 → E.bt x i = (E.bt s i && decide ((i : Int) ≤ fr))) : DnI s fr 0 x := ⟨ok, by decide, fun i hi => by rw [h i hi, decide_eq_true (by omega : i < 64 - 0)]; simp⟩
theorem DnI.next {s fr x : Int} {j : Nat} (h : DnI s fr j x) (hx : ¬ x = 0) : topI x < 64 ∧ j ≤ 63 - topI x ∧ E.bt s (topI x) = true ∧ (topI x : Int) ≤ fr ∧ dnL s fr (63 - topI x + 1) = dnL s fr j ++ [(topI x : Int)] ∧ DnI s fr (63 - topI x + 1) (woutF x (topI x : Int)) := by
  obtain ⟨l1, l2, l3⟩ := top_bt h.ok hx
  have h1 := h.bt _ l1
  rw [l2] at h1
  have h1 := h1.symm
  simp only [Bool.and_eq_true, decide_eq_true_eq] at h1
  obtain ⟨h2, h3, h4⟩ := h1
  have e : 63 - (63 - topI x) = topI x := by omega
  refine ⟨l1, by omega, h2, h3, ?_, okU_wout _ _, by omega, fun i hi => ?_⟩
  · unfold dnL
    rw [filter_range1 (show j ≤ 63 - topI x by omega) (fun i h5 h6 => ?_) (by rw [e, h2, decide_eq_true h3]; rfl), List.map_append]
    · simp only [List.map_cons, List.map_nil, e]
    · have := h.bt (63 - i) (by omega)
      rw [l3 (63 - i) (by omega), decide_eq_true (by omega : 63 - i < 64 - j), Bool.and_true] at this
      exact this.symm
  · rw [bt_wout _ (by omega) (by omega) hi, h.bt i hi]
    by_cases hlt : topI x < i
    · have := h.bt i hi
      rw [l3 i hlt] at this
      rw [← this, decide_eq_false (by omega : ¬ i < 64 - (63 - topI x + 1))]; simp
    · by_cases he : topI x = i
      · rw [decide_eq_true (by omega : (topI x : Int) = (i : Int)), decide_eq_false (by omega : ¬ i < 64 - (63 - topI x + 1))]; simp
      · rw [decide_eq_false (by omega : ¬ (topI x : Int) = (i : Int)), decide_eq_true (by omega : i < 64 - (63 - topI x + 1)), decide_eq_true (by omega : i < 64 - j)]; simp
theorem DnI.fin {s fr : Int} {j : Nat} (h : DnI s fr j 0) : dnL s fr 64 = dnL s fr j := by
  unfold dnL
  rw [filter_range h.le fun i h1 h2 => ?_]
  have := h.bt (63 - i) (by omega)
  rw [bt_zero, decide_eq_true (by omega : 63 - i < 64 - j), Bool.and_true] at this
  exact this.symm
theorem dnL_zero (s fr : Int) : dnL s fr 0 = [] := rfl
theorem upL_zero (s fr : Int) : upL s fr 0 = [] := rfl
theorem upL_prefix (s fr : Int) {m t : Nat} (h : m ≤ t) : ∃ r, upL s fr t = upL s fr m ++ r := by
  unfold upL
  obtain ⟨r, hr⟩ := filter_prefix (fun i => E.bt s i && decide (fr ≤ (i : Int))) h
  exact ⟨_, by rw [hr, List.map_append]⟩
theorem dnL_prefix (s fr : Int) {m t : Nat} (h : m ≤ t) : ∃ r, dnL s fr t = dnL s fr m ++ r := by
  unfold dnL
  obtain ⟨r, hr⟩ := filter_prefix (fun i => E.bt s (63 - i) && decide (((63 - i : Nat) : Int) ≤ fr)) h
  exact ⟨_, by rw [hr, List.map_append]⟩
theorem up_head {s fr x : Int} (h : UpI s fr 0 x) (hx : ¬ x = 0) : ∃ r, upL s fr 64 = (lowI x : Int) :: r := by
  obtain ⟨d1, d2, d3, d4, d5, d6⟩ := h.next hx
  obtain ⟨r, hr⟩ := upL_prefix s fr (show lowI x + 1 ≤ 64 by omega)
  exact ⟨r, by rw [hr, d5]; rfl⟩
theorem up_none {s fr : Int} (h : UpI s fr 0 0) : upL s fr 64 = [] := h.fin
theorem dn_head {s fr x : Int} (h : DnI s fr 0 x) (hx : ¬ x = 0) : ∃ r, dnL s fr 64 = (topI x : Int) :: r := by
  obtain ⟨d1, d2, d3, d4, d5, d6⟩ := h.next hx
  obtain ⟨r, hr⟩ := dnL_prefix s fr (show 63 - topI x + 1 ≤ 64 by omega)
  exact ⟨r, by rw [hr, d5]; rfl⟩
theorem dn_none {s fr : Int} (h : DnI s fr 0 0) : dnL s fr 64 = [] := h.fin
theorem topV {x : Int} (h : okU x) (hx : ¬ x = 0) : IntKind.i64.wrap (lenI x - 1) = (topI x : Int) := by
  rcases top_len hx with h1 | h1
  · exact h1
  · have := (top_bt h hx).1; omega
end Go.Proofs.YtaneamfnjhiigaaDoor.E
