/- The map of wants. -/
import Derived.Test.YtglpeibbkkikgaaBoundMath
import Derived.Test.YtglpeibbkkikgaaBoundE
namespace Go.Proofs.Ytglpeibbkkikgaa.E
open Go NumMath
set_option linter.unusedSimpArgs false
set_option linter.unusedVariables false
set_option maxRecDepth 100000
set_option maxHeartbeats 8000000
/-- Entries of the map of wants. -/
def mp (l : List Nat) : List MapEntry := l.map fun i : Nat => ⟨.int .i64 (i : Int), .bool true, i⟩
theorem mOk_mp : ∀ l : List Nat, mOk (.int .i64) (mp l) = true
  | [] => rfl
  | a :: l => by
    have := mOk_mp l
    unfold mOk mp at *
    simp only [List.map_cons, List.all_cons, this]
    rfl
theorem mFind_no {w : Int} : ∀ (l : List Nat) (i : Nat), (∀ a ∈ l, ¬ (a : Int) = w) → mFind (.int .i64 w) (mp l) i = none
  | [], _, _ => rfl
  | a :: l, i, h => by
    have ih := mFind_no l (i + 1) fun b hb => h b (List.mem_cons_of_mem _ hb)
    show cond (decide (w = (a : Int))) _ (mFind (.int .i64 w) (mp l) (i + 1)) = none
    rw [decide_eq_false (fun e => h a List.mem_cons_self e.symm), ih]; rfl
theorem mFind_yes {w : Nat} : ∀ (l : List Nat) (i : Nat), w ∈ l → ∃ j, mFind (.int .i64 (w : Int)) (mp l) i = some (i + j, .bool true) ∧ (mp l).eraseIdx j = mp (l.erase w)
  | a :: l, i, h => by
    by_cases e : w = a
    · subst e
      refine ⟨0, ?_, by simp [mp]⟩
      show cond (decide ((w : Int) = (w : Int))) _ _ = _
      rw [decide_eq_true rfl]; rfl
    · obtain ⟨j, h1, h2⟩ := mFind_yes l (i + 1) (by rcases List.mem_cons.1 h with h | h; exact absurd h e; exact h)
      refine ⟨j + 1, ?_, ?_⟩
      · show cond (decide ((w : Int) = (a : Int))) _ (mFind (.int .i64 w) (mp l) (i + 1)) = _
        rw [decide_eq_false (by omega), h1]
        show some (i + 1 + j, Value.bool true) = some (i + (j + 1), Value.bool true)
        rw [Nat.add_assoc, Nat.add_comm 1 j]
      · rw [List.erase_cons_tail (by simpa using fun h => e h.symm)]
        show _ :: (mp l).eraseIdx j = _ :: mp (l.erase w)
        rw [h2]
theorem mDel_mp {w : Nat} {l : List Nat} (h : w ∈ l) : mDel (.int .i64 (w : Int)) (mp l) = mp (l.erase w) := by
  obtain ⟨j, h1, h2⟩ := mFind_yes l 0 h
  unfold mDel
  rw [h1, ← h2, Nat.zero_add]
theorem mSet_mp {n : Nat} {l : List Nat} (h : n ∉ l) : mSet (.int .i64 (n : Int)) (.bool true) (mp l) n = (mp (l ++ [n]), n + 1) := by
  unfold mSet
  rw [mFind_no l 0 fun a ha e => h (by have : a = n := by omega
                                       exact this ▸ ha)]
  simp [mp]
theorem leftN_nil (n : Nat) : leftN n [] = List.range n := by
  unfold leftN
  exact List.filter_eq_self.2 fun a _ => rfl
theorem leftN_mem {n i : Nat} {L : List (Int × Nat)} : i ∈ leftN n L ↔ i < n ∧ cnt L i = 0 := by
  unfold leftN
  rw [List.mem_filter, List.mem_range, decide_eq_true_eq]
theorem leftN_nodup (n : Nat) (L : List (Int × Nat)) : (leftN n L).Nodup := List.Pairwise.filter _ List.nodup_range
theorem leftN_del {n : Nat} {L : List (Int × Nat)} {w c : Nat} : leftN n (L ++ [((w : Int), c)]) = (leftN n L).erase w := by
  rw [List.Nodup.erase_eq_filter (leftN_nodup n L)]
  unfold leftN
  rw [List.filter_filter]
  refine List.filter_congr fun i _ => ?_
  rw [cnt_append, cnt_one]
  by_cases e : i = w
  · subst e; simp
  · rw [if_neg (by omega)]
    simp [e]
theorem fitMap {ρ : List Nat} {σ : St} {es es' : List MapEntry} {c c' : Nat} (h : es = es') (hc : c = c') : FitB ρ σ (.map es c) (.map es' c') := by subst h hc; exact .map es c
theorem leftE_mem {l seen : List Nat} {e : MapEntry} (h : e ∈ leftE (mp l) seen) : ∃ i : Nat, e = ⟨.int .i64 (i : Int), .bool true, i⟩ ∧ i ∈ l ∧ i ∉ seen := by
  unfold leftE mp at h
  obtain ⟨h1, h2⟩ := List.mem_filter.1 h
  obtain ⟨i, hi, rfl⟩ := List.mem_map.1 h1
  exact ⟨i, rfl, hi, by simpa using h2⟩
theorem leftE_nil {l seen : List Nat} (h : leftE (mp l) seen = []) : ∀ i ∈ l, i ∈ seen := fun i hi => by
  unfold leftE mp at h
  have := List.filter_eq_nil_iff.1 h ⟨.int .i64 (i : Int), .bool true, i⟩ (List.mem_map.2 ⟨i, hi, rfl⟩)
  simpa using this
theorem find_mp {i : Nat} : ∀ {l : List Nat}, i ∈ l → (mp l).find? (fun e => e.born == i) = some ⟨.int .i64 (i : Int), .bool true, i⟩
  | a :: l, h => by
    by_cases e : a = i
    · subst e; simp [mp]
    · have h1 : i ∈ l := by rcases List.mem_cons.1 h with h | h; exact absurd h.symm e; exact h
      have := find_mp h1
      unfold mp at *
      rw [List.map_cons, List.find?_cons_of_neg (by simpa using e)]
      exact this
theorem entOp {tt : List TE} {fr : List AV} {σ : St} {x : Operand} {m l s c i : Nat} {seen L : List Nat} (hx : ev fr x = .p m 0) (hm : σ[m]? = some (.iter l s (seen ++ [i]) c)) (hl : σ[l]? = some (.map (mp L) c)) (hi : i ∈ L) : aOp tt (.entry x) fr σ = some (true, .t [.v (.int .i64 (i : Int)), .v (.bool true)], σ) := by
  have h1 : (seen ++ [i]).getLast? = some i := by simp
  simp only [aOp, hx, aEntry, hm, hl, h1, find_mp hi, keep2, Nat.beq_refl]
theorem old_mp {l : List Nat} {n : Nat} (h : ∀ i ∈ l, i < n) : (((mp l).all fun e => Nat.blt e.born n) && Nat.ble n n) = true := by
  refine and2 (List.all_eq_true.2 fun e he => ?_) (Nat.ble_eq_true_of_le (Nat.le_refl _))
  obtain ⟨i, hi, rfl⟩ := List.mem_map.1 he
  simpa [Nat.blt_eq] using h i hi
theorem less_seen {l seen : List Nat} {i : Nat} (h : i ∈ l) (hn : i ∉ seen) : (l.filter fun k => !(seen ++ [i]).contains k).length < (l.filter fun k => !seen.contains k).length := by
  have e : (l.filter fun k => !(seen ++ [i]).contains k) = (l.filter fun k => !seen.contains k).filter fun k => !decide (k = i) := by
    rw [List.filter_filter]
    refine List.filter_congr fun k _ => ?_
    by_cases h1 : k ∈ seen <;> by_cases h2 : k = i <;> simp [h1, h2]
  rw [e]
  exact List.length_filter_lt_length_iff_exists.2 ⟨i, List.mem_filter.2 ⟨h, by simpa using hn⟩, by simp⟩
end Go.Proofs.Ytglpeibbkkikgaa.E
