/- The engine, part 31: arguments by what they fit; rows that are put together. -/
import Derived.Test.YtaneamfnjhiigaaDoorEBor
namespace Go.Proofs.YtaneamfnjhiigaaDoor.E
open Go
set_option linter.unusedSimpArgs false
set_option linter.unusedVariables false

/-- A kind of arguments: how they are read (where a condition holds), and what they are taken as. -/
structure Ad (α : Type) where
  dec : AV → Option (Bool × α)
  enc : α → AV
  p : α → Prop
  ok : ∀ {u a}, dec u = some (true, a) → Fit [] [] (enc a) u ∧ p a

def adI : Ad Int := ⟨fun u => match u with | .v (.int .i64 a) => some (true, a) | _ => none, i64, fun _ => True, fun {u a} h => (by split at h <;> first | (obtain ⟨_, rfl⟩ := Prod.mk.inj (Option.some.inj h); exact ⟨.v _, trivial⟩) | cases h)⟩
def adB : Ad Bool := ⟨fun u => match u with | .v (.bool a) => some (true, a) | _ => none, boo, fun _ => True, fun {u a} h => (by split at h <;> first | (obtain ⟨_, rfl⟩ := Prod.mk.inj (Option.some.inj h); exact ⟨.v _, trivial⟩) | cases h)⟩
def adU : Ad Int := ⟨fun u => match u with | .v (.int .u64 a) => some (true, a) | _ => none, u64, fun _ => True, fun {u a} h => (by split at h <;> first | (obtain ⟨_, rfl⟩ := Prod.mk.inj (Option.some.inj h); exact ⟨.v _, trivial⟩) | cases h)⟩
/-- A kind of values that fit themselves. -/
def adD {α : Type} (d : Dec α) (h : ∀ a, Fit [] [] (d.enc a) (d.enc a)) : Ad α := ⟨fun u => (d.dec u).map fun a => (true, a), d.enc, fun _ => True, fun {u a} hd => by
  cases hu : d.dec u with
  | none => rw [hu] at hd; cases hd
  | some b =>
    rw [hu] at hd
    obtain ⟨_, rfl⟩ := Prod.mk.inj (Option.some.inj hd)
    rw [d.ok hu]
    exact ⟨h b, trivial⟩⟩
/-- Rows; nil is the row of no elements. -/
def adR {α : Type} (e : Elt α) : Ad (List α) := ⟨fun u => match u with
  | .v (.slice none 0 0) => some (true, [])
  | .z => some (true, [])
  | .i sz n g => some (isRow e n sz g, rows e n g)
  | _ => none, row e, fun l => l.length < 281474976710656, fun {u a} h => by
  split at h
  · obtain ⟨_, rfl⟩ := Prod.mk.inj (Option.some.inj h); exact ⟨.ni, by show 0 < _; decide⟩
  · obtain ⟨_, rfl⟩ := Prod.mk.inj (Option.some.inj h); exact ⟨.zi, by show 0 < _; decide⟩
  · rename_i sz n g
    simp only [Option.some.injEq, Prod.mk.injEq, isRow, Bool.and_eq_true] at h
    obtain ⟨⟨h1, h2, h3⟩, rfl⟩ := h
    obtain rfl := Nat.eq_of_beq_eq_true h1
    exact ⟨fit_row e h2 rfl, by rw [rows_len]; simpa [Nat.blt_eq] using h3⟩
  · cases h⟩

section
variable {α β γ δ ε : Type} {τ : Type}
/-- A condition more. -/
def andC (c : Bool) : Option (Bool × τ) → Option (Bool × τ)
  | some (c', v) => some (c' && c, v)
  | none => none
theorem andC_some {c : Bool} {r : Option (Bool × τ)} {v : τ} (h : andC c r = some (true, v)) : c = true ∧ r = some (true, v) := by
  cases r with
  | none => cases h
  | some p =>
    obtain ⟨c', v'⟩ := p
    simp only [andC, Option.some.injEq, Prod.mk.injEq, Bool.and_eq_true] at h
    obtain ⟨⟨rfl, rfl⟩, rfl⟩ := h
    exact ⟨rfl, rfl⟩
def ad1 (d : Ad α) (F : α → Option (Bool × τ)) : List AV → Option (Bool × τ)
  | [u] => match d.dec u with | some (c, a) => andC c (F a) | none => none
  | _ => none
theorem ad1_some {d : Ad α} {F : α → Option (Bool × τ)} {args : List AV} {v : τ} (h : ad1 d F args = some (true, v)) : ∃ a, FitL [] [] [d.enc a] args ∧ d.p a ∧ F a = some (true, v) := by
  unfold ad1 at h
  split at h
  · rename_i u
    split at h
    · rename_i c a hd
      obtain ⟨hc, h'⟩ := andC_some h
      subst hc
      exact ⟨a, ⟨(d.ok hd).1, trivial⟩, (d.ok hd).2, h'⟩
    · cases h
  · cases h
def ad2 (d : Ad α) (e : Ad β) (F : α → β → Option (Bool × τ)) : List AV → Option (Bool × τ)
  | u :: us => match d.dec u with | some (c, a) => andC c (ad1 e (F a) us) | none => none
  | _ => none
theorem ad2_some {d : Ad α} {e : Ad β} {F : α → β → Option (Bool × τ)} {args : List AV} {v : τ} (h : ad2 d e F args = some (true, v)) : ∃ a b, FitL [] [] [d.enc a, e.enc b] args ∧ d.p a ∧ e.p b ∧ F a b = some (true, v) := by
  unfold ad2 at h
  split at h
  · rename_i u us
    split at h
    · rename_i c a hd
      obtain ⟨hc, h'⟩ := andC_some h
      subst hc
      obtain ⟨b, h1, h2, h3⟩ := ad1_some h'
      exact ⟨a, b, ⟨(d.ok hd).1, h1⟩, (d.ok hd).2, h2, h3⟩
    · cases h
  · cases h
def ad3 (d : Ad α) (e : Ad β) (f : Ad γ) (F : α → β → γ → Option (Bool × τ)) : List AV → Option (Bool × τ)
  | u :: us => match d.dec u with | some (c, a) => andC c (ad2 e f (F a) us) | none => none
  | _ => none
theorem ad3_some {d : Ad α} {e : Ad β} {f : Ad γ} {F : α → β → γ → Option (Bool × τ)} {args : List AV} {v : τ} (h : ad3 d e f F args = some (true, v)) : ∃ a b c, FitL [] [] [d.enc a, e.enc b, f.enc c] args ∧ d.p a ∧ e.p b ∧ f.p c ∧ F a b c = some (true, v) := by
  unfold ad3 at h
  split at h
  · rename_i u us
    split at h
    · rename_i c a hd
      obtain ⟨hc, h'⟩ := andC_some h
      subst hc
      obtain ⟨b, c, h1, h2, h3, h4⟩ := ad2_some h'
      exact ⟨a, b, c, ⟨(d.ok hd).1, h1⟩, (d.ok hd).2, h2, h3, h4⟩
    · cases h
  · cases h
def ad4 (d : Ad α) (e : Ad β) (f : Ad γ) (g : Ad δ) (F : α → β → γ → δ → Option (Bool × τ)) : List AV → Option (Bool × τ)
  | u :: us => match d.dec u with | some (c, a) => andC c (ad3 e f g (F a) us) | none => none
  | _ => none
theorem ad4_some {d : Ad α} {e : Ad β} {f : Ad γ} {g : Ad δ} {F : α → β → γ → δ → Option (Bool × τ)} {args : List AV} {v : τ} (h : ad4 d e f g F args = some (true, v)) : ∃ a b c x, FitL [] [] [d.enc a, e.enc b, f.enc c, g.enc x] args ∧ d.p a ∧ e.p b ∧ f.p c ∧ g.p x ∧ F a b c x = some (true, v) := by
  unfold ad4 at h
  split at h
  · rename_i u us
    split at h
    · rename_i c a hd
      obtain ⟨hc, h'⟩ := andC_some h
      subst hc
      obtain ⟨b, c, x, h1, h2, h3, h4, h5⟩ := ad3_some h'
      exact ⟨a, b, c, x, ⟨(d.ok hd).1, h1⟩, (d.ok hd).2, h2, h3, h4, h5⟩
    · cases h
  · cases h
end

/-! ### Rows that are put together -/
section
variable {α : Type} (e : Elt α)
theorem rows_congr {n : Nat} {g g' : Nat → List AV} (h : ∀ k, k < n → g k = g' k) : rows e n g = rows e n g' := by
  unfold rows
  exact List.map_congr_left fun k hk => by rw [h k (List.mem_range.1 hk)]
theorem okRow_congr {n : Nat} {g g' : Nat → List AV} (h : ∀ k, k < n → g k = g' k) : okRow e n g = okRow e n g' := by
  unfold okRow
  rw [Bool.eq_iff_iff, List.all_eq_true, List.all_eq_true]
  exact ⟨fun a k hk => by rw [← h k (List.mem_range.1 hk)]; exact a k hk, fun a k hk => by rw [h k (List.mem_range.1 hk)]; exact a k hk⟩
/-- What a row of elements is, and that it is one. -/
structure RowIs (n : Nat) (g : Nat → List AV) (l : List α) : Prop where
  len : n = l.length
  get : ∀ k, k < n → g k = e.enc (l.getD k e.dflt)
theorem RowIs.rows {n : Nat} {g : Nat → List AV} {l : List α} (h : RowIs e n g l) : rows e n g = l := by
  rw [rows_congr e h.get, h.len, rows_row]
theorem RowIs.okRow {n : Nat} {g : Nat → List AV} {l : List α} (h : RowIs e n g l) : okRow e n g = true := by
  rw [okRow_congr e h.get, okRow_row]
theorem RowIs.isRow {n : Nat} {g : Nat → List AV} {l : List α} (h : RowIs e n g l) (hl : l.length < 281474976710656) : isRow e n e.sz g = true := by
  unfold E.isRow
  rw [Nat.beq_refl, h.okRow]
  simpa [Nat.blt_eq, h.len] using hl
theorem RowIs.row (l : List α) : RowIs e l.length (fun k => e.enc (l.getD k e.dflt)) l := ⟨rfl, fun _ _ => rfl⟩
theorem RowIs.joined {n m : Nat} {g1 g2 : Nat → List AV} {l1 l2 : List α} (h1 : RowIs e n g1 l1) (h2 : RowIs e m g2 l2) : RowIs e (n + m) (joined n g1 g2) (l1 ++ l2) := by
  refine ⟨by rw [List.length_append, h1.len, h2.len], fun k hk => ?_⟩
  unfold E.joined
  rw [List.getD_eq_getElem?_getD, List.getElem?_append, ← h1.len]
  split
  · rename_i hk1
    rw [h1.get k hk1, List.getD_eq_getElem?_getD]
  · rename_i hk1
    rw [h2.get (k - n) (by omega), List.getD_eq_getElem?_getD]
/-- One element more. -/
theorem RowIs.snoc {n : Nat} {g1 g2 : Nat → List AV} {l : List α} {a : α} (h1 : RowIs e n g1 l) (h2 : g2 0 = e.enc a) : RowIs e (n + 1) (E.joined n g1 g2) (l ++ [a]) := RowIs.joined e h1 ⟨rfl, fun k hk => by
  obtain rfl : k = 0 := by simpa using hk
  exact h2⟩
/-- A part of a row. -/
theorem RowIs.part {n m o : Nat} {g : Nat → List AV} {l : List α} (h : RowIs e n g l) (ho : o + m ≤ n) : RowIs e m (fun k => g (o + k)) ((l.drop o).take m) := by
  have hl := h.len
  refine ⟨by rw [List.length_take, List.length_drop]; omega, fun k hk => ?_⟩
  show g (o + k) = _
  rw [h.get (o + k) (by omega), List.getD_eq_getElem?_getD, List.getD_eq_getElem?_getD, List.getElem?_take, if_pos hk, List.getElem?_drop]
theorem RowIs.congr {n : Nat} {g g' : Nat → List AV} {l : List α} (h : RowIs e n g l) (hg : ∀ k, k < n → g' k = g k) : RowIs e n g' l := ⟨h.len, fun k hk => by rw [hg k hk]; exact h.get k hk⟩
theorem RowIs.all {n : Nat} {g : Nat → List AV} {l : List α} (h : RowIs e n g l) : RowIs e n (fun k => g (0 + k)) l := h.congr e fun k _ => by rw [Nat.zero_add]
/-- One element is another one. -/
theorem RowIs.set {n i : Nat} {g : Nat → List AV} {l : List α} (h : RowIs e n g l) {cs : List AV} {a : α} (hc : cs = e.enc a) : RowIs e n (fun k => if k = i then cs else g k) (l.set i a) := by
  refine ⟨by rw [List.length_set]; exact h.len, fun k hk => ?_⟩
  show (if k = i then cs else g k) = _
  rw [List.getD_eq_getElem?_getD, List.getElem?_set]
  split
  · rename_i e
    subst e
    rw [if_pos rfl, if_pos (by rw [← h.len]; exact hk)]
    exact hc
  · rename_i hne
    rw [if_neg (Ne.symm hne), h.get k hk, List.getD_eq_getElem?_getD]
/-- Cells of one element are written. -/
theorem RowIs.put {n i i' j : Nat} {g : Nat → List AV} {l : List α} (h : RowIs e n g l) {cs : List AV} {a : α} (hi : i' = i) (hn : i < n) (hc : putCells (e.enc (l.getD i e.dflt)) j cs = e.enc a) : RowIs e n (fun k => if k = i' then putCells (g k) j cs else g k) (l.set i a) := by
  subst hi
  refine (RowIs.set e h (cs := putCells (g i') j cs) (a := a) (by rw [h.get i' hn]; exact hc)).congr e fun k hk => ?_
  split
  · rename_i e; rw [e]
  · rfl
theorem RowIs.nil (g : Nat → List AV) : RowIs e 0 g ([] : List α) := ⟨rfl, fun k hk => by omega⟩
theorem RowIs.rep {n : Nat} {g : Nat → List AV} (h : ∀ k, k < n → g k = e.enc e.dflt) : RowIs e n g (List.replicate n e.dflt) := by
  refine ⟨by simp, fun k hk => ?_⟩
  rw [h k hk, List.getD_eq_getElem?_getD, List.getElem?_replicate, if_pos hk]; rfl
end
/-- A row's memory fits another form of it. -/
theorem fit_tab {α : Type} {e : Elt α} {ρ : List Nat} {σ : St} {n : Nat} {g : Nat → List AV} {l : List α} (h : RowIs e n g l) : FitB ρ σ (tabl e l) (.tab e.sz n g) := by
  have := h.len
  subst this
  exact .tab fun k hk => (h.get k hk).symm

/-- A part of memory that is read. -/
theorem bor1 {σ : St} {l sz o n n' : Nat} {g : Nat → List AV} (hσ : σ[l]? = some (.tab sz n' g)) (h : o + n ≤ n') : [AV.s l sz o n].all (vok σ) = true := by
  simp only [List.all_cons, List.all_nil, vok, vok1, hσ, Bool.and_true]
  exact decide_eq_true h
theorem bor2 {σ : St} {l sz o n n' l' sz' o' m m' : Nat} {g g' : Nat → List AV} (hσ : σ[l]? = some (.tab sz n' g)) (h : o + n ≤ n') (hσ' : σ[l']? = some (.tab sz' m' g')) (h' : o' + m ≤ m') : [AV.s l sz o n, AV.s l' sz' o' m].all (vok σ) = true := by
  simp only [List.all_cons, List.all_nil, vok, vok1, hσ, hσ', Bool.and_true, decide_eq_true h, decide_eq_true h']
theorem and2 {a b : Bool} (h1 : a = true) (h2 : b = true) : (a && b) = true := by rw [h1, h2]; rfl
theorem rowT {α : Type} {e : Elt α} {n : Nat} {g : Nat → List AV} {l : List α} (h : RowIs e n g l) (hl : l.length < 281474976710656) : isRow e n e.sz g = true := h.isRow e hl
theorem row2 {g : Nat → List AV} {a b : Int} (h0 : g 0 = [u8 a]) (h1 : g 1 = [u8 b]) : RowIs eY 2 g [a, b] := ⟨rfl, fun k hk => by
  match k, hk with
  | 0, _ => exact h0
  | 1, _ => exact h1⟩
theorem joined_zero (g1 g2 : Nat → List AV) : joined 0 g1 g2 = g2 := by funext k; unfold joined; rw [if_neg (by omega)]; rfl
/-! ### Rows of rows -/
section
variable {α : Type} (e : Elt α)
def okR1 : List AV → Bool
  | [.i sz m h] => isRow e m sz h
  | [.v (.slice none 0 0)] => true
  | [.z] => true
  | _ => false
def rowR1 : List AV → List α
  | [.i _ m h] => rows e m h
  | _ => []
def okRR (n : Nat) (g : Nat → List AV) : Bool := (List.range n).all fun k => okR1 e (g k)
def rowsRR (n : Nat) (g : Nat → List AV) : List (List α) := (List.range n).map fun k => rowR1 e (g k)
/-- A row of rows that nobody writes. -/
abbrev rrow (ls : List (List α)) : AV := .i 1 ls.length fun k => [row e (ls.getD k [])]
theorem okR1_fit {ρ : List Nat} {σ : St} {us : List AV} (h : okR1 e us = true) : ∃ u, us = [u] ∧ Fit ρ σ (row e (rowR1 e us)) u ∧ (rowR1 e us).length < 281474976710656 := by
  unfold okR1 at h
  split at h
  · rename_i sz m g
    simp only [isRow, Bool.and_eq_true] at h
    obtain ⟨h1, h2, h3⟩ := h
    obtain rfl := Nat.eq_of_beq_eq_true h1
    exact ⟨_, rfl, fit_row e h2 rfl, by simp only [rowR1, rows_len]; simpa [Nat.blt_eq] using h3⟩
  · exact ⟨_, rfl, .ni, by simp [rowR1]⟩
  · exact ⟨_, rfl, .zi, by simp [rowR1]⟩
  · cases h
def adRR : Ad (List (List α)) := ⟨fun u => match u with
  | .v (.slice none 0 0) => some (true, [])
  | .z => some (true, [])
  | .i sz n g => some (Nat.beq sz 1 && (okRR e n g && Nat.blt n 281474976710656), rowsRR e n g)
  | _ => none, rrow e, fun ls => ls.length < 281474976710656 ∧ ∀ l ∈ ls, l.length < 281474976710656, fun {u a} h => by
  split at h
  · obtain ⟨_, rfl⟩ := Prod.mk.inj (Option.some.inj h); exact ⟨.ni, by simp, fun l hl => by simp at hl⟩
  · obtain ⟨_, rfl⟩ := Prod.mk.inj (Option.some.inj h); exact ⟨.zi, by simp, fun l hl => by simp at hl⟩
  · rename_i sz n g
    simp only [Option.some.injEq, Prod.mk.injEq, Bool.and_eq_true] at h
    obtain ⟨⟨h1, h2, h3⟩, rfl⟩ := h
    obtain rfl := Nat.eq_of_beq_eq_true h1
    have hlen : (rowsRR e n g).length = n := by simp [rowsRR]
    have hget : ∀ k, k < n → (rowsRR e n g).getD k [] = rowR1 e (g k) := fun k hk => by
      simp [rowsRR, List.getD_eq_getElem?_getD, hk]
    have hok : ∀ k, k < n → okR1 e (g k) = true := fun k hk => List.all_eq_true.1 h2 k (List.mem_range.2 hk)
    refine ⟨?_, by rw [hlen]; simpa [Nat.blt_eq] using h3, fun l hl => ?_⟩
    · unfold rrow
      rw [hlen]
      refine .ii (fun k hk => ?_) (fun k hk j u0 u h0 h1 => ?_) fun k hk u hu => ?_
      · obtain ⟨u, e1, _⟩ := okR1_fit (ρ := []) (σ := []) e (hok k hk)
        rw [e1]; rfl
      · obtain ⟨u', e1, e2, _⟩ := okR1_fit (ρ := []) (σ := []) e (hok k hk)
        rw [e1] at h1 e2
        rw [hget k hk, e1] at h0
        cases j with
        | zero => simp at h0 h1; subst h0 h1; exact e2
        | succ j => simp at h0
      · obtain rfl := List.mem_singleton.1 hu; rfl
    · obtain ⟨k, hk, rfl⟩ := List.mem_map.1 hl
      exact (okR1_fit (ρ := []) (σ := []) e (hok k (List.mem_range.1 hk))).choose_spec.2.2
  · cases h⟩
end
end Go.Proofs.YtaneamfnjhiigaaDoor.E
