/- The engine, part 27: values of Lean as abstract values; contracts by arguments of known kinds; rows. -/
import Derived.Test.YtaneamfnjhiigaaDoorELaw
namespace Go.Proofs.YtaneamfnjhiigaaDoor.E
open Go
set_option linter.unusedSimpArgs false
set_option linter.unusedVariables false

/-- A kind of values: how they are read, and written. -/
structure Dec (α : Type) where
  dec : AV → Option α
  enc : α → AV
  ok : ∀ {u a}, dec u = some a → u = enc a

def dI : Dec Int := ⟨fun u => match u with | .v (.int .i64 a) => some a | _ => none, i64, fun {u a} h => (by split at h <;> first | (obtain rfl := Option.some.inj h; rfl) | cases h)⟩
def dB : Dec Bool := ⟨fun u => match u with | .v (.bool a) => some a | _ => none, boo, fun {u a} h => (by split at h <;> first | (obtain rfl := Option.some.inj h; rfl) | cases h)⟩
def dU : Dec Int := ⟨fun u => match u with | .v (.int .u64 a) => some a | _ => none, u64, fun {u a} h => (by split at h <;> first | (obtain rfl := Option.some.inj h; rfl) | cases h)⟩
abbrev u8 (n : Int) : AV := .v (.int .u8 n)
abbrev u16 (n : Int) : AV := .v (.int .u16 n)
def dY : Dec Int := ⟨fun u => match u with | .v (.int .u8 a) => some a | _ => none, u8, fun {u a} h => (by split at h <;> first | (obtain rfl := Option.some.inj h; rfl) | cases h)⟩
/-- Anything. -/
def dA : Dec AV := ⟨some, id, fun {u a} h => Option.some.inj h⟩

section
variable {α β γ δ ε ζ ρ : Type}
def fn0 (F : Option ρ) : List AV → Option ρ
  | [] => F
  | _ => none
theorem fn0_some {F : Option ρ} {args : List AV} {r : ρ} (h : fn0 F args = some r) : args = [] ∧ F = some r := by
  unfold fn0 at h; split at h
  · exact ⟨rfl, h⟩
  · cases h
def fn1 (d : Dec α) (F : α → Option ρ) : List AV → Option ρ
  | [u] => match d.dec u with | some a => F a | none => none
  | _ => none
theorem fn1_some {d : Dec α} {F : α → Option ρ} {args : List AV} {r : ρ} (h : fn1 d F args = some r) : ∃ a, args = [d.enc a] ∧ F a = some r := by
  unfold fn1 at h; split at h
  · split at h
    · rename_i a ha; exact ⟨a, by rw [d.ok ha], h⟩
    · cases h
  · cases h
def fn2 (d : Dec α) (e : Dec β) (F : α → β → Option ρ) : List AV → Option ρ
  | u :: us => match d.dec u with | some a => fn1 e (F a) us | none => none
  | _ => none
theorem fn2_some {d : Dec α} {e : Dec β} {F : α → β → Option ρ} {args : List AV} {r : ρ} (h : fn2 d e F args = some r) : ∃ a b, args = [d.enc a, e.enc b] ∧ F a b = some r := by
  unfold fn2 at h; split at h
  · split at h
    · rename_i a ha
      obtain ⟨b, rfl, h'⟩ := fn1_some h
      exact ⟨a, b, by rw [d.ok ha], h'⟩
    · cases h
  · cases h
def fn3 (d : Dec α) (e : Dec β) (f : Dec γ) (F : α → β → γ → Option ρ) : List AV → Option ρ
  | u :: us => match d.dec u with | some a => fn2 e f (F a) us | none => none
  | _ => none
theorem fn3_some {d : Dec α} {e : Dec β} {f : Dec γ} {F : α → β → γ → Option ρ} {args : List AV} {r : ρ} (h : fn3 d e f F args = some r) : ∃ a b c, args = [d.enc a, e.enc b, f.enc c] ∧ F a b c = some r := by
  unfold fn3 at h; split at h
  · split at h
    · rename_i a ha
      obtain ⟨b, c, rfl, h'⟩ := fn2_some h
      exact ⟨a, b, c, by rw [d.ok ha], h'⟩
    · cases h
  · cases h
def fn4 (d : Dec α) (e : Dec β) (f : Dec γ) (g : Dec δ) (F : α → β → γ → δ → Option ρ) : List AV → Option ρ
  | u :: us => match d.dec u with | some a => fn3 e f g (F a) us | none => none
  | _ => none
theorem fn4_some {d : Dec α} {e : Dec β} {f : Dec γ} {g : Dec δ} {F : α → β → γ → δ → Option ρ} {args : List AV} {r : ρ} (h : fn4 d e f g F args = some r) : ∃ a b c x, args = [d.enc a, e.enc b, f.enc c, g.enc x] ∧ F a b c x = some r := by
  unfold fn4 at h; split at h
  · split at h
    · rename_i a ha
      obtain ⟨b, c, x, rfl, h'⟩ := fn3_some h
      exact ⟨a, b, c, x, by rw [d.ok ha], h'⟩
    · cases h
  · cases h
def fn5 (d : Dec α) (e : Dec β) (f : Dec γ) (g : Dec δ) (i : Dec ε) (F : α → β → γ → δ → ε → Option ρ) : List AV → Option ρ
  | u :: us => match d.dec u with | some a => fn4 e f g i (F a) us | none => none
  | _ => none
theorem fn5_some {d : Dec α} {e : Dec β} {f : Dec γ} {g : Dec δ} {i : Dec ε} {F : α → β → γ → δ → ε → Option ρ} {args : List AV} {r : ρ} (h : fn5 d e f g i F args = some r) : ∃ a b c x y, args = [d.enc a, e.enc b, f.enc c, g.enc x, i.enc y] ∧ F a b c x y = some r := by
  unfold fn5 at h; split at h
  · split at h
    · rename_i a ha
      obtain ⟨b, c, x, y, rfl, h'⟩ := fn4_some h
      exact ⟨a, b, c, x, y, by rw [d.ok ha], h'⟩
    · cases h
  · cases h
/-- Where it holds, this is answered. -/
def giv (c : Bool) (u : AV) : Option (Bool × AV) := some (c, u)
theorem giv_some {c : Bool} {u v : AV} (h : giv c u = some (true, v)) : c = true ∧ v = u := by
  simp only [giv, Option.some.injEq, Prod.mk.injEq] at h
  exact ⟨h.1, h.2.symm⟩
end

/-! ### Ends -/
theorem finI {a b : Int} {σ' : St} (h : a = b) : tr (Fin 0 (i64 a) [] (i64 b) σ') := fin0 (by rw [h]; exact .v _)
theorem finB {a b : Bool} {σ' : St} (h : a = b) : tr (Fin 0 (boo a) [] (boo b) σ') := fin0 (by rw [h]; exact .v _)
theorem finU {a b : Int} {σ' : St} (h : a = b) : tr (Fin 0 (u64 a) [] (u64 b) σ') := fin0 (by rw [h]; exact .v _)
theorem finA {a b : List AV} {σ' : St} (h : FitL [] σ' a b) : tr (Fin 0 (.a a) [] (.a b) σ') := fin0 (Fit.al h)
theorem finT {a b : List AV} {σ' : St} (h : FitL [] σ' a b) : tr (Fin 0 (.t a) [] (.t b) σ') := fin0 (Fit.tl h)

/-! ### Rows -/
/-- A kind of elements, of sz cells each. -/
structure Elt (α : Type) where
  sz : Nat
  dec : List AV → Option α
  enc : α → List AV
  dflt : α
  ok : ∀ {u a}, dec u = some a → u = enc a
  back : ∀ a, dec (enc a) = some a
def eI : Elt Int := ⟨1, fun u => match u with | [.v (.int .i64 a)] => some a | _ => none, fun a => [i64 a], 0, fun {u a} h => (by split at h <;> first | (obtain rfl := Option.some.inj h; rfl) | cases h), fun _ => rfl⟩
def eY : Elt Int := ⟨1, fun u => match u with | [.v (.int .u8 a)] => some a | _ => none, fun a => [u8 a], 0, fun {u a} h => (by split at h <;> first | (obtain rfl := Option.some.inj h; rfl) | cases h), fun _ => rfl⟩
def eB : Elt Bool := ⟨1, fun u => match u with | [.v (.bool a)] => some a | _ => none, fun a => [boo a], false, fun {u a} h => (by split at h <;> first | (obtain rfl := Option.some.inj h; rfl) | cases h), fun _ => rfl⟩
section
variable {α : Type} (e : Elt α)
/-- A row that nobody writes. -/
abbrev row (l : List α) : AV := .i e.sz l.length fun k => e.enc (l.getD k e.dflt)
/-- A row's memory. -/
abbrev tabl (l : List α) : Blk := .tab e.sz l.length fun k => e.enc (l.getD k e.dflt)
def rows (n : Nat) (g : Nat → List AV) : List α := (List.range n).map fun k => (e.dec (g k)).getD e.dflt
def okRow (n : Nat) (g : Nat → List AV) : Bool := (List.range n).all fun k => (e.dec (g k)).isSome
theorem rows_len (n : Nat) (g : Nat → List AV) : (rows e n g).length = n := by simp [rows]
theorem okRow_get {n : Nat} {g : Nat → List AV} (h : okRow e n g = true) {k : Nat} (hk : k < n) : g k = e.enc ((rows e n g).getD k e.dflt) := by
  have := List.all_eq_true.1 h k (List.mem_range.2 hk)
  obtain ⟨a, ha⟩ := Option.isSome_iff_exists.1 this
  rw [e.ok ha]
  simp [rows, List.getD_eq_getElem?_getD, hk, ha]
theorem rows_row (l : List α) : rows e l.length (fun k => e.enc (l.getD k e.dflt)) = l := by
  apply List.ext_getElem?
  intro k
  simp only [rows, e.back, List.getElem?_map, Option.getD_some]
  rcases Nat.lt_or_ge k l.length with h | h
  · rw [List.getElem?_range h]; simp [List.getD_eq_getElem?_getD, h]
  · rw [List.getElem?_eq_none h, List.getElem?_eq_none (by simpa using h)]; rfl
theorem okRow_row (n : Nat) (l : List α) : okRow e n (fun k => e.enc (l.getD k e.dflt)) = true := by
  unfold okRow
  exact List.all_eq_true.2 fun k _ => by rw [e.back]; rfl
theorem fit_row {ρ : List Nat} {σ : St} {n : Nat} {g : Nat → List AV} {l : List α} (h : okRow e n g = true) (hl : rows e n g = l) : Fit ρ σ (row e l) (.i e.sz n g) := by
  subst hl
  unfold row
  rw [rows_len]
  exact .i fun k hk => (okRow_get e h hk).symm
theorem row_self {ρ : List Nat} {σ : St} (l : List α) : Fit ρ σ (row e l) (row e l) := .i fun _ _ => rfl
/-- An argument that is a row: its length's bound, and what it is. -/
structure IsRow (u : AV) (l : List α) : Prop where
  fit : ∀ (ρ : List Nat) (σ : St), Fit ρ σ (row e l) u
  len : l.length < 281474976710656
/-- A row that is the zero value behind its end. -/
theorem row_eq {m : Nat} {g : Nat → List AV} {p : α → Prop} (h : ∀ k, k < m → ∃ a, g k = e.enc a ∧ p a) (hz : ∀ k, m ≤ k → g k = e.enc e.dflt) (hm : m < 281474976710656) : ∃ l : List α, .i e.sz m g = row e l ∧ l.length < 281474976710656 ∧ ∀ x ∈ l, p x := by
  have ok : okRow e m g = true := List.all_eq_true.2 fun k hk => by
    obtain ⟨a, ha, _⟩ := h k (List.mem_range.1 hk)
    rw [ha, e.back]; rfl
  refine ⟨rows e m g, ?_, by rw [rows_len]; exact hm, fun x hx => ?_⟩
  · unfold row
    rw [rows_len]
    congr 1
    funext k
    rcases Nat.lt_or_ge k m with hk | hk
    · exact okRow_get e ok hk
    · rw [hz k hk, List.getD_eq_getElem?_getD, List.getElem?_eq_none (by rw [rows_len]; exact hk)]; rfl
  · obtain ⟨k, hk, rfl⟩ := List.mem_map.1 hx
    obtain ⟨a, ha, hp⟩ := h k (List.mem_range.1 hk)
    rw [ha, e.back]; exact hp
def decRow : AV → Option (List α)
  | .i sz n g => match Nat.beq sz e.sz && okRow e n g && Nat.blt n 281474976710656 with
    | true => some (rows e n g)
    | false => none
  | _ => none
theorem decRow_some {u : AV} {l : List α} (h : decRow e u = some l) : IsRow e u l ∧ ∃ g, u = .i e.sz l.length g ∧ ∀ k, k < l.length → g k = e.enc (l.getD k e.dflt) := by
  unfold decRow at h
  split at h
  · rename_i sz n g
    split at h
    · rename_i hc
      simp only [Bool.and_eq_true] at hc
      obtain ⟨⟨h1, h2⟩, h3⟩ := hc
      obtain rfl := Nat.eq_of_beq_eq_true h1
      obtain rfl := Option.some.inj h
      refine ⟨⟨fun ρ σ => fit_row e h2 rfl, by rw [rows_len]; simpa [Nat.blt_eq] using h3⟩, g, by rw [rows_len], fun k hk => okRow_get e h2 (by rw [rows_len] at hk; exact hk)⟩
    · cases h
  · cases h
theorem row_of {m : Nat} {g : Nat → List AV} {p : α → Prop} (h : ∀ k, k < m → ∃ a, g k = e.enc a ∧ p a) (hm : m < 281474976710656) : ∃ l : List α, l.length = m ∧ IsRow e (.i e.sz m g) l ∧ ∀ x ∈ l, p x := by
  have ok : okRow e m g = true := List.all_eq_true.2 fun k hk => by
    obtain ⟨a, ha, _⟩ := h k (List.mem_range.1 hk)
    rw [ha, e.back]; rfl
  refine ⟨rows e m g, rows_len e m g, ⟨fun ρ σ => fit_row e ok rfl, by rw [rows_len]; exact hm⟩, fun x hx => ?_⟩
  obtain ⟨k, hk, rfl⟩ := List.mem_map.1 hx
  obtain ⟨a, ha, hp⟩ := h k (List.mem_range.1 hk)
  rw [ha, e.back]; exact hp
/-- A row as an argument, as it came. -/
def dR : Dec (Nat × Nat × (Nat → List AV)) := ⟨fun u => match u with | .i sz n g => some (sz, n, g) | _ => none, fun r => .i r.1 r.2.1 r.2.2, fun {u a} h => (by split at h <;> first | (obtain rfl := Option.some.inj h; rfl) | cases h)⟩
/-- Whether it is a row of such elements. -/
def isRow (n sz : Nat) (g : Nat → List AV) : Bool := Nat.beq sz e.sz && (okRow e n g && Nat.blt n 281474976710656)
def gRow (r : Nat × Nat × (Nat → List AV)) (F : List α → Option (Bool × AV)) : Option (Bool × AV) :=
  match F (rows e r.2.1 r.2.2) with
  | some (c, v) => some (c && isRow e r.2.1 r.1 r.2.2, v)
  | none => none
theorem gRow_some {r : Nat × Nat × (Nat → List AV)} {F : List α → Option (Bool × AV)} {v : AV} (h : gRow e r F = some (true, v)) : ∃ l g, dR.enc r = .i e.sz l.length g ∧ IsRow e (.i e.sz l.length g) l ∧ F l = some (true, v) := by
  obtain ⟨sz, n, g⟩ := r
  unfold gRow at h
  split at h
  case h_2 => cases h
  rename_i c v' hF
  simp only [Option.some.injEq, Prod.mk.injEq, Bool.and_eq_true, isRow] at h hF
  obtain ⟨⟨rfl, h1, h2, h3⟩, rfl⟩ := h
  obtain rfl := Nat.eq_of_beq_eq_true h1
  refine ⟨rows e n g, g, by rw [rows_len]; rfl, ⟨fun ρ σ => fit_row e (by rw [rows_len]; exact h2) (by rw [rows_len]), by rw [rows_len]; simpa [Nat.blt_eq] using h3⟩, hF⟩
theorem isRow_row {l : List α} (h : l.length < 281474976710656) : isRow e l.length e.sz (fun k => e.enc (l.getD k e.dflt)) = true := by
  simp only [isRow, Nat.beq_refl, okRow_row, Bool.true_and]
  simpa [Nat.blt_eq] using h
theorem decRow_row {l : List α} (h : l.length < 281474976710656) : decRow e (row e l) = some l := by
  simp only [decRow, Nat.beq_refl, okRow_row, Bool.true_and]
  rw [show Nat.blt l.length 281474976710656 = true by simpa [Nat.blt_eq] using h]
  simp only [rows_row]
end
end Go.Proofs.YtaneamfnjhiigaaDoor.E
