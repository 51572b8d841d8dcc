/- The engine, part 25: rows of whole numbers. -/
import Derived.Test.YtaneamfnjhiigaaDoorELocal
namespace Go.Proofs.YtaneamfnjhiigaaDoor.E
open Go
set_option linter.unusedSimpArgs false
set_option linter.unusedVariables false

/-- A row of whole numbers that nobody writes. -/
abbrev ints (l : List Int) : AV := .i 1 l.length fun k => [i64 (l.getD k 0)]
def asI : List AV → Option Int
  | [.v (.int .i64 a)] => some a
  | _ => none
theorem asI_some {l : List AV} {a : Int} (h : asI l = some a) : l = [i64 a] := by
  unfold asI at h
  split at h
  · rw [Option.some.inj h]
  · cases h
def listI (n : Nat) (g : Nat → List AV) : List Int := (List.range n).map fun k => (asI (g k)).getD 0
def okI (n : Nat) (g : Nat → List AV) : Bool := (List.range n).all fun k => (asI (g k)).isSome
theorem listI_len (n : Nat) (g : Nat → List AV) : (listI n g).length = n := by simp [listI]
theorem okI_get {n : Nat} {g : Nat → List AV} (h : okI n g = true) {k : Nat} (hk : k < n) : g k = [i64 ((listI n g).getD k 0)] := by
  have := List.all_eq_true.1 h k (List.mem_range.2 hk)
  obtain ⟨a, ha⟩ := Option.isSome_iff_exists.1 this
  rw [asI_some ha]
  simp [listI, List.getD_eq_getElem?_getD, hk, ha]
theorem listI_ints (l : List Int) : listI l.length (fun k => [i64 (l.getD k 0)]) = l := by
  apply List.ext_getElem?
  intro k
  simp only [listI, asI, List.getElem?_map, Option.getD_some]
  rcases Nat.lt_or_ge k l.length with h | h
  · rw [List.getElem?_range h]; simp [List.getD_eq_getElem?_getD, h]
  · rw [List.getElem?_eq_none h, List.getElem?_eq_none (by simpa using h)]; rfl
theorem okI_ints (n : Nat) (l : List Int) : okI n (fun k => [i64 (l.getD k 0)]) = true := by
  unfold okI
  exact List.all_eq_true.2 fun k _ => rfl
theorem fit_ints {ρ : List Nat} {σ : St} {n : Nat} {g : Nat → List AV} {l : List Int} (h : okI n g = true) (hl : listI n g = l) : Fit ρ σ (ints l) (.i 1 n g) := by
  subst hl
  unfold ints
  rw [listI_len]
  exact .i fun k hk => (okI_get h hk).symm
/-- A row that was laid cell by cell, and that nobody writes any more. -/
theorem fit_lits {ρ : List Nat} {σ : St} {m : Nat} (l : List Int) (h : σ[m]? = some (.lit (l.map i64))) (hm : m ∉ ρ) (hb : l.length < 281474976710656) : Fit ρ σ (ints l) (.s m 1 0 l.length) := by
  refine .fzl h hm ?_ (by decide) (by simp) (by omega) fun k hk => ?_
  · exact List.all_eq_true.2 fun u hu => by obtain ⟨a, _, rfl⟩ := List.mem_map.1 hu; rfl
  · rw [Nat.zero_add, Nat.mul_one, List.drop_eq_getElem_cons (by simpa using hk)]
    simp [List.getD_eq_getElem?_getD, hk]
/-- Contracts of a function of a row of whole numbers. -/
def ints1 (F : List Int → Option (Bool × AV)) : List AV → Option (Bool × AV)
  | [.i 1 n g] => match F (listI n g) with | some (c, u) => some (okI n g && decide (n < 281474976710656) && c, u) | none => none
  | _ => none
theorem ints1_some {F : List Int → Option (Bool × AV)} {args : List AV} {u : AV} (h : ints1 F args = some (true, u)) : ∃ n g, args = [.i 1 n g] ∧ okI n g = true ∧ (listI n g).length < 281474976710656 ∧ F (listI n g) = some (true, u) := by
  unfold ints1 at h
  split at h
  · rename_i n g
    split at h
    · rename_i c u' hF
      simp only [Option.some.injEq, Prod.mk.injEq, Bool.and_eq_true] at h
      obtain ⟨⟨⟨h1, h2⟩, rfl⟩, rfl⟩ := h
      exact ⟨n, g, rfl, h1, by rw [listI_len]; exact of_decide_eq_true h2, hF⟩
    · cases h
  · cases h
end Go.Proofs.YtaneamfnjhiigaaDoor.E
