/- What is added up does not hang on the order. -/
import Derived.Test.YtglpeibbkkikgaaBoundMapE
namespace Go.Proofs.Ytglpeibbkkikgaa.E
open Go NumMath
set_option linter.unusedSimpArgs false
set_option linter.unusedVariables false
/-- What is added up so far. -/
def accN (p : Snap) (cn : Nat) (pl : List (List Int)) (K : Nat) (c0 : Int) (seen : List Nat) : Int := seen.foldl (fun (n : Int) (w : Nat) => lim (lim n + lim (lp p cn pl (w : Int) K))) c0
theorem perm_sum {l l' : List Int} (h : l.Perm l') : l.sum = l'.sum := by
  induction h with
  | nil => rfl
  | cons x _ ih => simp only [List.sum_cons, ih]
  | swap x y l => simp only [List.sum_cons]; omega
  | trans _ _ h1 h2 => rw [h1, h2]
theorem sum_nn {T : Nat → Int} (h : ∀ w, 0 ≤ T w) : ∀ s : List Nat, 0 ≤ (s.map T).sum
  | [] => by simp
  | w :: s => by
    have := sum_nn h s
    have := h w
    simp only [List.map_cons, List.sum_cons]
    omega
theorem acc_sum {T : Nat → Int} (h : ∀ w, 0 ≤ T w ∧ T w ≤ 1099511627776) : ∀ (s : List Nat) (c0 : Int), 0 ≤ c0 → c0 ≤ 1099511627776 → s.foldl (fun (n : Int) (w : Nat) => lim (lim n + lim (T w))) c0 = min 1099511627776 (c0 + (s.map T).sum)
  | [], c0, h0, h1 => by simp only [List.foldl_nil, List.map_nil, List.sum_nil]; omega
  | w :: s, c0, h0, h1 => by
    have hw := h w
    have hs := sum_nn (fun w => (h w).1) s
    have e : lim (lim c0 + lim (T w)) = min 1099511627776 (c0 + T w) := by
      rw [lim_id (a := c0) (by omega) h1, lim_id (a := T w) (by omega) hw.2]
      unfold lim
      split
      · omega
      · rw [if_neg (by omega)]; omega
    rw [List.foldl_cons, e, acc_sum h s _ (by omega) (by omega)]
    simp only [List.map_cons, List.sum_cons]
    omega
theorem rleast_sum {p : Snap} (hr : p.right = true) {pl : List (List Int)} (hpl : pl.length = p.cs.length) (hl : ∀ c, c < pl.length → (pl.getD c []).length ≤ 1000) {cn : Nat} (hcn : cn ≤ pl.length) : ∀ (s : List Nat) (c0 : Int), 0 ≤ c0 → c0 + 70000000 * (s.length : Int) < 1099511627776 →
    rleast p cn pl (s.map fun i : Nat => (i : Int)) c0 = min 1099511627776 (c0 + (s.map fun w : Nat => lp p cn pl (w : Int) (pl.length - cn)).sum)
  | [], c0, h0, h1 => by simp only [List.map_nil, List.sum_nil, rleast, List.length_nil] at *; omega
  | w :: s, c0, h0, h1 => by
    have hT : ∀ w : Nat, 0 ≤ lp p cn pl (w : Int) (pl.length - cn) := fun w => by
      obtain ⟨g1, g2, g3⟩ := lw_bd hr hpl hl cn (w : Int) (pl.length - cn) (by omega)
      omega
    have hs := sum_nn hT s
    obtain ⟨g1, g2, g3⟩ := lw_bd hr hpl hl cn (w : Int) (pl.length - cn) (by omega)
    simp only [List.map_cons, List.sum_cons, rleast, List.length_cons] at *
    split
    · rename_i hlt
      omega
    · rename_i hlt
      rw [rleast_sum hr hpl hl hcn s _ (by omega) (by omega)]
      omega
theorem cost_tail {p : Snap} {pl : List (List Int)} {cn : Nat} (h : ∀ c, cn < c → c < pl.length → pl.getD c [] = []) : ∀ k, cn + 1 + k ≤ pl.length → costS p pl (cn + 1 + k) 0 = costS p pl (cn + 1) 0
  | 0, _ => rfl
  | k + 1, hk => by
    have h1 := cost_tail (p := p) h k (by omega)
    have h2 := costS_next p pl (cn + 1 + k)
    rw [h (cn + 1 + k) (by omega) (by omega)] at h2
    rw [← h1]
    exact h2.symm
theorem beg_empty {p : Snap} {car : Int} {pl : List (List Int)} (h : begOk p car pl = true) {c : Nat} (hc : c < pl.length) (hcar : car < (c : Int)) : pl.getD c [] = [] := by
  cases hl : pl.getD c [] with
  | nil => rfl
  | cons a l =>
    have := beg_car (p := p) hc (by rw [hl]; exact Nat.succ_pos _) hcar
    rw [this] at h; cases h
theorem perm_of {a b : List Nat} (ha : a.Nodup) (hb : b.Nodup) (h1 : ∀ i ∈ a, i ∈ b) (h2 : ∀ i ∈ b, i ∈ a) : a.Perm b := (List.perm_ext_iff_of_nodup ha hb).2 fun i => ⟨h1 i, h2 i⟩
end Go.Proofs.Ytglpeibbkkikgaa.E
