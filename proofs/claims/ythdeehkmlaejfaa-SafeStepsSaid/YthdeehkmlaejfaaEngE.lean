/- The engine, and texts over it, joined: ELib ELaw EDec EBor EArg EFresh ERow. -/
import Derived.Test.YthdeehkmlaejfaaEngD
import Derived.Below
import Derived.ProofKit
import Derived.OpenShut
import Derived.ShutString
import Derived.ChangeOld
import Derived.SizedLaws
import Derived.Carry
/- The engine, part 25: rows of whole numbers. -/
namespace Go.Proofs.Ythdeehkmlaejfaa.E
open Go
set_option linter.unusedSimpArgs false
set_option linter.unusedVariables false

/-- A row of whole numbers that nobody writes. -/
abbrev ints (l : List Int) : AV := .i 1 l.length fun k => [i64 (l.getD k 0)]
def asI : List AV → Option Int
  | [.v (.int .i64 a)] => some a
  | _ => none
theorem asI_some {l : List AV} {a : Int} (h : asI l = some a) : l = [i64 a] := by
  unfold asI at h
  split at h
  · rw [Option.some.inj h]
  · cases h
def listI (n : Nat) (g : Nat → List AV) : List Int := (List.range n).map fun k => (asI (g k)).getD 0
def okI (n : Nat) (g : Nat → List AV) : Bool := (List.range n).all fun k => (asI (g k)).isSome
theorem listI_len (n : Nat) (g : Nat → List AV) : (listI n g).length = n := by simp [listI]
theorem okI_get {n : Nat} {g : Nat → List AV} (h : okI n g = true) {k : Nat} (hk : k < n) : g k = [i64 ((listI n g).getD k 0)] := by
  have := List.all_eq_true.1 h k (List.mem_range.2 hk)
  obtain ⟨a, ha⟩ := Option.isSome_iff_exists.1 this
  rw [asI_some ha]
  simp [listI, List.getD_eq_getElem?_getD, hk, ha]
theorem listI_ints (l : List Int) : listI l.length (fun k => [i64 (l.getD k 0)]) = l := by
  apply List.ext_getElem?
  intro k
  simp only [listI, asI, List.getElem?_map, Option.getD_some]
  rcases Nat.lt_or_ge k l.length with h | h
  · rw [List.getElem?_range h]; simp [List.getD_eq_getElem?_getD, h]
  · rw [List.getElem?_eq_none h, List.getElem?_eq_none (by simpa using h)]; rfl
theorem okI_ints (n : Nat) (l : List Int) : okI n (fun k => [i64 (l.getD k 0)]) = true := by
  unfold okI
  exact List.all_eq_true.2 fun k _ => rfl
theorem fit_ints {ρ : List Nat} {σ : St} {n : Nat} {g : Nat → List AV} {l : List Int} (h : okI n g = true) (hl : listI n g = l) : Fit ρ σ (ints l) (.i 1 n g) := by
  subst hl
  unfold ints
  rw [listI_len]
  exact .i fun k hk => (okI_get h hk).symm
/-- A row that was laid cell by cell, and that nobody writes any more. -/
theorem fit_lits {ρ : List Nat} {σ : St} {m : Nat} (l : List Int) (h : σ[m]? = some (.lit (l.map i64))) (hm : m ∉ ρ) (hb : l.length < 281474976710656) : Fit ρ σ (ints l) (.s m 1 0 l.length) := by
  refine .fzl h hm ?_ (by decide) (by simp) (by omega) fun k hk => ?_
  · exact List.all_eq_true.2 fun u hu => by obtain ⟨a, _, rfl⟩ := List.mem_map.1 hu; rfl
  · rw [Nat.zero_add, Nat.mul_one, List.drop_eq_getElem_cons (by simpa using hk)]
    simp [List.getD_eq_getElem?_getD, hk]
/-- Contracts of a function of a row of whole numbers. -/
def ints1 (F : List Int → Option (Bool × AV)) : List AV → Option (Bool × AV)
  | [.i 1 n g] => match F (listI n g) with | some (c, u) => some (okI n g && decide (n < 281474976710656) && c, u) | none => none
  | _ => none
theorem ints1_some {F : List Int → Option (Bool × AV)} {args : List AV} {u : AV} (h : ints1 F args = some (true, u)) : ∃ n g, args = [.i 1 n g] ∧ okI n g = true ∧ (listI n g).length < 281474976710656 ∧ F (listI n g) = some (true, u) := by
  unfold ints1 at h
  split at h
  · rename_i n g
    split at h
    · rename_i c u' hF
      simp only [Option.some.injEq, Prod.mk.injEq, Bool.and_eq_true] at h
      obtain ⟨⟨⟨h1, h2⟩, rfl⟩, rfl⟩ := h
      exact ⟨n, g, rfl, h1, by rw [listI_len]; exact of_decide_eq_true h2, hF⟩
    · cases h
  · cases h
end Go.Proofs.Ythdeehkmlaejfaa.E
/- The engine, part 26: a law of it. -/
namespace Go.Proofs.Ythdeehkmlaejfaa.E
open Go Go.RowKit
set_option linter.unusedSimpArgs false
set_option linter.unusedVariables false

/-- A law that answers true from values that hang on no root, in a world that it leaves as it was. -/
theorem law_calls {P : Program} {X : Cx} (hX : CxOk P X) {g : Nat} {fn : Func} (hg : P.funcs[g]? = some fn) (hnm : (fn.name == "runtime.NumGoroutine") = false) (hc : fn.body = some (bodyOf fn)) {args : List AV} (hr : runF X fn args [] (boo true) [])
    {vals : List Value} {W : World} (hl : args.length = vals.length) (hv : ∀ (k : Nat) (u : AV) (x : Value), args[k]? = some u → vals[k]? = some x → VR (fun b => b < W.heap.size) (fun _ => none) W u x) (hgl : Globs (fun b => b < W.heap.size) W := by intro p hp; exact absurd hp (by simp [globs])) :
    Calls P g vals.toArray W fun e W' => e = .returned (.bool true) ∧ Below W.heap.size W W' := by
  refine (runF_ok hX hg hnm hc hr (R := fun b => b < W.heap.size) (φ := fun _ => none) (sim_nil ⟨fun _ h => h, hgl⟩) ⟨hl, hv⟩).mono fun e W' h => ?_
  obtain ⟨v, R', φ', rfl, T, hval⟩ := h
  refine ⟨congrArg Ending.returned hval.val, ?_⟩
  have k := T.keep
  exact ⟨k.os, k.tape, k.output, k.size, fun b hb => k.obj b hb fun _ ⟨l, B, e, _⟩ => by simp at e⟩

theorem vr_int {R : Nat → Prop} {φ : Phi} {W : World} (K : IntKind) (n : Int) : VR R φ W (.v (.int K n)) (.int K n) := .imm (.v _)
theorem vr_bool {R : Nat → Prop} {φ : Phi} {W : World} (b : Bool) : VR R φ W (.v (.bool b)) (.bool b) := .imm (.v _)

/-- A row of whole numbers that came as an argument. -/
theorem vr_row {φ : Phi} {W : World} {k : IntKind} {a : Option Addr} {len cap : Nat} {zs : List Int} (hm : len < 281474976710656)
    (h : (a = none ∧ len = 0) ∨ ∃ x, a = some x ∧ len ≤ cap ∧ len ≤ zs.length ∧ ∀ i, i < zs.length → W.cell? (x.add i) = some (.int k (zs.getD i 0))) :
    VR (fun b => b < W.heap.size) φ W (.i 1 (zs.take len).length fun i => [.v (.int k ((zs.take len).getD i 0))]) (.slice a len cap) := by
  rcases h with ⟨rfl, rfl⟩ | ⟨x, rfl, hc, hz, hcell⟩
  · exact .imm (.nil _ _ _ _)
  · have hl : (zs.take len).length = len := by rw [List.length_take]; omega
    rw [hl]
    by_cases h0 : len = 0
    · subst h0; exact .imm (.nil _ _ _ _)
    · obtain ⟨b, o, sp⟩ := x
      have c0 := hcell 0 (by omega)
      have hsp : sp = none := by
        simp only [Addr.add, if_true, World.cell?] at c0
        split at c0
        · split at c0
          · cases c0
          · rename_i hn; simpa using hn
        · cases c0
      subst hsp
      have hb : b < W.heap.size := by
        simp only [Addr.add, if_true, World.cell?] at c0
        split at c0
        · rename_i hh; exact (Array.getElem?_eq_some_iff.1 hh).1
        · cases c0
      have hadd : ∀ i, (Addr.mk b o none).add i = ⟨b, o + i, none⟩ := fun i => by
        unfold Addr.add; split
        · rename_i h; subst h; rfl
        · rfl
      refine .imm (.i (fun i _ => .int k (zs.getD i 0)) hb hc (fun _ _ => rfl) (fun i j u hi hu => ?_) (fun i j u hi hu => ?_) (fun _ _ _ _ _ => rfl) (by decide) (by omega))
      all_goals
        obtain rfl : j = 0 := by
          rcases j with _ | j
          · rfl
          · simp at hu
        have hg : (zs.take len).getD i 0 = zs.getD i 0 := by simp [List.getD_eq_getElem?_getD, List.getElem?_take, hi]
        simp only [List.getElem?_cons_zero, Option.some.injEq, hg] at hu
        subst hu
      · have := hcell i (by omega)
        rw [hadd] at this
        simpa using this
      · exact .v _

/-- Arguments of a law, one by one. -/
theorem args0 {R : Nat → Prop} {φ : Phi} {W : World} : ∀ (k : Nat) (u : AV) (x : Value), ([] : List AV)[k]? = some u → ([] : List Value)[k]? = some x → VR R φ W u x := fun k u x h => by simp at h
theorem args1 {R : Nat → Prop} {φ : Phi} {W : World} {u : AV} {x : Value} {us : List AV} {xs : List Value} (h : VR R φ W u x) (hs : ∀ (k : Nat) (u : AV) (x : Value), us[k]? = some u → xs[k]? = some x → VR R φ W u x) :
    ∀ (k : Nat) (w : AV) (y : Value), (u :: us)[k]? = some w → (x :: xs)[k]? = some y → VR R φ W w y := fun k w y hw hy => by
  cases k with
  | zero => simp at hw hy; subst hw hy; exact h
  | succ k => exact hs k w y (by simpa using hw) (by simpa using hy)
end Go.Proofs.Ythdeehkmlaejfaa.E
/- The engine, part 27: values of Lean as abstract values; contracts by arguments of known kinds; rows. -/
namespace Go.Proofs.Ythdeehkmlaejfaa.E
open Go
set_option linter.unusedSimpArgs false
set_option linter.unusedVariables false

/-- A kind of values: how they are read, and written. -/
structure Dec (α : Type) where
  dec : AV → Option α
  enc : α → AV
  ok : ∀ {u a}, dec u = some a → u = enc a

def dI : Dec Int := ⟨fun u => match u with | .v (.int .i64 a) => some a | _ => none, i64, fun {u a} h => (by split at h <;> first | (obtain rfl := Option.some.inj h; rfl) | cases h)⟩
def dB : Dec Bool := ⟨fun u => match u with | .v (.bool a) => some a | _ => none, boo, fun {u a} h => (by split at h <;> first | (obtain rfl := Option.some.inj h; rfl) | cases h)⟩
def dU : Dec Int := ⟨fun u => match u with | .v (.int .u64 a) => some a | _ => none, u64, fun {u a} h => (by split at h <;> first | (obtain rfl := Option.some.inj h; rfl) | cases h)⟩
abbrev u8 (n : Int) : AV := .v (.int .u8 n)
abbrev u16 (n : Int) : AV := .v (.int .u16 n)
def dY : Dec Int := ⟨fun u => match u with | .v (.int .u8 a) => some a | _ => none, u8, fun {u a} h => (by split at h <;> first | (obtain rfl := Option.some.inj h; rfl) | cases h)⟩
/-- Anything. -/
def dA : Dec AV := ⟨some, id, fun {u a} h => Option.some.inj h⟩

section
variable {α β γ δ ε ζ ρ : Type}
def fn0 (F : Option ρ) : List AV → Option ρ
  | [] => F
  | _ => none
theorem fn0_some {F : Option ρ} {args : List AV} {r : ρ} (h : fn0 F args = some r) : args = [] ∧ F = some r := by
  unfold fn0 at h; split at h
  · exact ⟨rfl, h⟩
  · cases h
def fn1 (d : Dec α) (F : α → Option ρ) : List AV → Option ρ
  | [u] => match d.dec u with | some a => F a | none => none
  | _ => none
theorem fn1_some {d : Dec α} {F : α → Option ρ} {args : List AV} {r : ρ} (h : fn1 d F args = some r) : ∃ a, args = [d.enc a] ∧ F a = some r := by
  unfold fn1 at h; split at h
  · split at h
    · rename_i a ha; exact ⟨a, by rw [d.ok ha], h⟩
    · cases h
  · cases h
def fn2 (d : Dec α) (e : Dec β) (F : α → β → Option ρ) : List AV → Option ρ
  | u :: us => match d.dec u with | some a => fn1 e (F a) us | none => none
  | _ => none
theorem fn2_some {d : Dec α} {e : Dec β} {F : α → β → Option ρ} {args : List AV} {r : ρ} (h : fn2 d e F args = some r) : ∃ a b, args = [d.enc a, e.enc b] ∧ F a b = some r := by
  unfold fn2 at h; split at h
  · split at h
    · rename_i a ha
      obtain ⟨b, rfl, h'⟩ := fn1_some h
      exact ⟨a, b, by rw [d.ok ha], h'⟩
    · cases h
  · cases h
def fn3 (d : Dec α) (e : Dec β) (f : Dec γ) (F : α → β → γ → Option ρ) : List AV → Option ρ
  | u :: us => match d.dec u with | some a => fn2 e f (F a) us | none => none
  | _ => none
theorem fn3_some {d : Dec α} {e : Dec β} {f : Dec γ} {F : α → β → γ → Option ρ} {args : List AV} {r : ρ} (h : fn3 d e f F args = some r) : ∃ a b c, args = [d.enc a, e.enc b, f.enc c] ∧ F a b c = some r := by
  unfold fn3 at h; split at h
  · split at h
    · rename_i a ha
      obtain ⟨b, c, rfl, h'⟩ := fn2_some h
      exact ⟨a, b, c, by rw [d.ok ha], h'⟩
    · cases h
  · cases h
def fn4 (d : Dec α) (e : Dec β) (f : Dec γ) (g : Dec δ) (F : α → β → γ → δ → Option ρ) : List AV → Option ρ
  | u :: us => match d.dec u with | some a => fn3 e f g (F a) us | none => none
  | _ => none
theorem fn4_some {d : Dec α} {e : Dec β} {f : Dec γ} {g : Dec δ} {F : α → β → γ → δ → Option ρ} {args : List AV} {r : ρ} (h : fn4 d e f g F args = some r) : ∃ a b c x, args = [d.enc a, e.enc b, f.enc c, g.enc x] ∧ F a b c x = some r := by
  unfold fn4 at h; split at h
  · split at h
    · rename_i a ha
      obtain ⟨b, c, x, rfl, h'⟩ := fn3_some h
      exact ⟨a, b, c, x, by rw [d.ok ha], h'⟩
    · cases h
  · cases h
def fn5 (d : Dec α) (e : Dec β) (f : Dec γ) (g : Dec δ) (i : Dec ε) (F : α → β → γ → δ → ε → Option ρ) : List AV → Option ρ
  | u :: us => match d.dec u with | some a => fn4 e f g i (F a) us | none => none
  | _ => none
theorem fn5_some {d : Dec α} {e : Dec β} {f : Dec γ} {g : Dec δ} {i : Dec ε} {F : α → β → γ → δ → ε → Option ρ} {args : List AV} {r : ρ} (h : fn5 d e f g i F args = some r) : ∃ a b c x y, args = [d.enc a, e.enc b, f.enc c, g.enc x, i.enc y] ∧ F a b c x y = some r := by
  unfold fn5 at h; split at h
  · split at h
    · rename_i a ha
      obtain ⟨b, c, x, y, rfl, h'⟩ := fn4_some h
      exact ⟨a, b, c, x, y, by rw [d.ok ha], h'⟩
    · cases h
  · cases h
/-- Where it holds, this is answered. -/
def giv (c : Bool) (u : AV) : Option (Bool × AV) := some (c, u)
theorem giv_some {c : Bool} {u v : AV} (h : giv c u = some (true, v)) : c = true ∧ v = u := by
  simp only [giv, Option.some.injEq, Prod.mk.injEq] at h
  exact ⟨h.1, h.2.symm⟩
end

/-! ### Ends -/
theorem finI {a b : Int} {σ' : St} (h : a = b) : tr (Fin 0 (i64 a) [] (i64 b) σ') := fin0 (by rw [h]; exact .v _)
theorem finB {a b : Bool} {σ' : St} (h : a = b) : tr (Fin 0 (boo a) [] (boo b) σ') := fin0 (by rw [h]; exact .v _)
theorem finU {a b : Int} {σ' : St} (h : a = b) : tr (Fin 0 (u64 a) [] (u64 b) σ') := fin0 (by rw [h]; exact .v _)
theorem finA {a b : List AV} {σ' : St} (h : FitL [] σ' a b) : tr (Fin 0 (.a a) [] (.a b) σ') := fin0 (Fit.al h)
theorem finT {a b : List AV} {σ' : St} (h : FitL [] σ' a b) : tr (Fin 0 (.t a) [] (.t b) σ') := fin0 (Fit.tl h)

/-! ### Rows -/
/-- A kind of elements, of sz cells each. -/
structure Elt (α : Type) where
  sz : Nat
  dec : List AV → Option α
  enc : α → List AV
  dflt : α
  ok : ∀ {u a}, dec u = some a → u = enc a
  back : ∀ a, dec (enc a) = some a
def eI : Elt Int := ⟨1, fun u => match u with | [.v (.int .i64 a)] => some a | _ => none, fun a => [i64 a], 0, fun {u a} h => (by split at h <;> first | (obtain rfl := Option.some.inj h; rfl) | cases h), fun _ => rfl⟩
def eY : Elt Int := ⟨1, fun u => match u with | [.v (.int .u8 a)] => some a | _ => none, fun a => [u8 a], 0, fun {u a} h => (by split at h <;> first | (obtain rfl := Option.some.inj h; rfl) | cases h), fun _ => rfl⟩
def eB : Elt Bool := ⟨1, fun u => match u with | [.v (.bool a)] => some a | _ => none, fun a => [boo a], false, fun {u a} h => (by split at h <;> first | (obtain rfl := Option.some.inj h; rfl) | cases h), fun _ => rfl⟩
section
variable {α : Type} (e : Elt α)
/-- A row that nobody writes. -/
abbrev row (l : List α) : AV := .i e.sz l.length fun k => e.enc (l.getD k e.dflt)
/-- A row's memory. -/
abbrev tabl (l : List α) : Blk := .tab e.sz l.length fun k => e.enc (l.getD k e.dflt)
def rows (n : Nat) (g : Nat → List AV) : List α := (List.range n).map fun k => (e.dec (g k)).getD e.dflt
def okRow (n : Nat) (g : Nat → List AV) : Bool := (List.range n).all fun k => (e.dec (g k)).isSome
theorem rows_len (n : Nat) (g : Nat → List AV) : (rows e n g).length = n := by simp [rows]
theorem okRow_get {n : Nat} {g : Nat → List AV} (h : okRow e n g = true) {k : Nat} (hk : k < n) : g k = e.enc ((rows e n g).getD k e.dflt) := by
  have := List.all_eq_true.1 h k (List.mem_range.2 hk)
  obtain ⟨a, ha⟩ := Option.isSome_iff_exists.1 this
  rw [e.ok ha]
  simp [rows, List.getD_eq_getElem?_getD, hk, ha]
theorem rows_row (l : List α) : rows e l.length (fun k => e.enc (l.getD k e.dflt)) = l := by
  apply List.ext_getElem?
  intro k
  simp only [rows, e.back, List.getElem?_map, Option.getD_some]
  rcases Nat.lt_or_ge k l.length with h | h
  · rw [List.getElem?_range h]; simp [List.getD_eq_getElem?_getD, h]
  · rw [List.getElem?_eq_none h, List.getElem?_eq_none (by simpa using h)]; rfl
theorem okRow_row (n : Nat) (l : List α) : okRow e n (fun k => e.enc (l.getD k e.dflt)) = true := by
  unfold okRow
  exact List.all_eq_true.2 fun k _ => by rw [e.back]; rfl
theorem fit_row {ρ : List Nat} {σ : St} {n : Nat} {g : Nat → List AV} {l : List α} (h : okRow e n g = true) (hl : rows e n g = l) : Fit ρ σ (row e l) (.i e.sz n g) := by
  subst hl
  unfold row
  rw [rows_len]
  exact .i fun k hk => (okRow_get e h hk).symm
theorem row_self {ρ : List Nat} {σ : St} (l : List α) : Fit ρ σ (row e l) (row e l) := .i fun _ _ => rfl
/-- An argument that is a row: its length's bound, and what it is. -/
structure IsRow (u : AV) (l : List α) : Prop where
  fit : ∀ (ρ : List Nat) (σ : St), Fit ρ σ (row e l) u
  len : l.length < 281474976710656
/-- A row that is the zero value behind its end. -/
theorem row_eq {m : Nat} {g : Nat → List AV} {p : α → Prop} (h : ∀ k, k < m → ∃ a, g k = e.enc a ∧ p a) (hz : ∀ k, m ≤ k → g k = e.enc e.dflt) (hm : m < 281474976710656) : ∃ l : List α, .i e.sz m g = row e l ∧ l.length < 281474976710656 ∧ ∀ x ∈ l, p x := by
  have ok : okRow e m g = true := List.all_eq_true.2 fun k hk => by
    obtain ⟨a, ha, _⟩ := h k (List.mem_range.1 hk)
    rw [ha, e.back]; rfl
  refine ⟨rows e m g, ?_, by rw [rows_len]; exact hm, fun x hx => ?_⟩
  · unfold row
    rw [rows_len]
    congr 1
    funext k
    rcases Nat.lt_or_ge k m with hk | hk
    · exact okRow_get e ok hk
    · rw [hz k hk, List.getD_eq_getElem?_getD, List.getElem?_eq_none (by rw [rows_len]; exact hk)]; rfl
  · obtain ⟨k, hk, rfl⟩ := List.mem_map.1 hx
    obtain ⟨a, ha, hp⟩ := h k (List.mem_range.1 hk)
    rw [ha, e.back]; exact hp
def decRow : AV → Option (List α)
  | .i sz n g => match Nat.beq sz e.sz && okRow e n g && Nat.blt n 281474976710656 with
    | true => some (rows e n g)
    | false => none
  | _ => none
theorem decRow_some {u : AV} {l : List α} (h : decRow e u = some l) : IsRow e u l ∧ ∃ g, u = .i e.sz l.length g ∧ ∀ k, k < l.length → g k = e.enc (l.getD k e.dflt) := by
  unfold decRow at h
  split at h
  · rename_i sz n g
    split at h
    · rename_i hc
      simp only [Bool.and_eq_true] at hc
      obtain ⟨⟨h1, h2⟩, h3⟩ := hc
      obtain rfl := Nat.eq_of_beq_eq_true h1
      obtain rfl := Option.some.inj h
      refine ⟨⟨fun ρ σ => fit_row e h2 rfl, by rw [rows_len]; simpa [Nat.blt_eq] using h3⟩, g, by rw [rows_len], fun k hk => okRow_get e h2 (by rw [rows_len] at hk; exact hk)⟩
    · cases h
  · cases h
theorem row_of {m : Nat} {g : Nat → List AV} {p : α → Prop} (h : ∀ k, k < m → ∃ a, g k = e.enc a ∧ p a) (hm : m < 281474976710656) : ∃ l : List α, l.length = m ∧ IsRow e (.i e.sz m g) l ∧ ∀ x ∈ l, p x := by
  have ok : okRow e m g = true := List.all_eq_true.2 fun k hk => by
    obtain ⟨a, ha, _⟩ := h k (List.mem_range.1 hk)
    rw [ha, e.back]; rfl
  refine ⟨rows e m g, rows_len e m g, ⟨fun ρ σ => fit_row e ok rfl, by rw [rows_len]; exact hm⟩, fun x hx => ?_⟩
  obtain ⟨k, hk, rfl⟩ := List.mem_map.1 hx
  obtain ⟨a, ha, hp⟩ := h k (List.mem_range.1 hk)
  rw [ha, e.back]; exact hp
/-- A row as an argument, as it came. -/
def dR : Dec (Nat × Nat × (Nat → List AV)) := ⟨fun u => match u with | .i sz n g => some (sz, n, g) | _ => none, fun r => .i r.1 r.2.1 r.2.2, fun {u a} h => (by split at h <;> first | (obtain rfl := Option.some.inj h; rfl) | cases h)⟩
/-- Whether it is a row of such elements. -/
def isRow (n sz : Nat) (g : Nat → List AV) : Bool := Nat.beq sz e.sz && (okRow e n g && Nat.blt n 281474976710656)
def gRow (r : Nat × Nat × (Nat → List AV)) (F : List α → Option (Bool × AV)) : Option (Bool × AV) :=
  match F (rows e r.2.1 r.2.2) with
  | some (c, v) => some (c && isRow e r.2.1 r.1 r.2.2, v)
  | none => none
theorem gRow_some {r : Nat × Nat × (Nat → List AV)} {F : List α → Option (Bool × AV)} {v : AV} (h : gRow e r F = some (true, v)) : ∃ l g, dR.enc r = .i e.sz l.length g ∧ IsRow e (.i e.sz l.length g) l ∧ F l = some (true, v) := by
  obtain ⟨sz, n, g⟩ := r
  unfold gRow at h
  split at h
  case h_2 => cases h
  rename_i c v' hF
  simp only [Option.some.injEq, Prod.mk.injEq, Bool.and_eq_true, isRow] at h hF
  obtain ⟨⟨rfl, h1, h2, h3⟩, rfl⟩ := h
  obtain rfl := Nat.eq_of_beq_eq_true h1
  refine ⟨rows e n g, g, by rw [rows_len]; rfl, ⟨fun ρ σ => fit_row e (by rw [rows_len]; exact h2) (by rw [rows_len]), by rw [rows_len]; simpa [Nat.blt_eq] using h3⟩, hF⟩
theorem isRow_row {l : List α} (h : l.length < 281474976710656) : isRow e l.length e.sz (fun k => e.enc (l.getD k e.dflt)) = true := by
  simp only [isRow, Nat.beq_refl, okRow_row, Bool.true_and]
  simpa [Nat.blt_eq] using h
theorem decRow_row {l : List α} (h : l.length < 281474976710656) : decRow e (row e l) = some l := by
  simp only [decRow, Nat.beq_refl, okRow_row, Bool.true_and]
  rw [show Nat.blt l.length 281474976710656 = true by simpa [Nat.blt_eq] using h]
  simp only [rows_row]
end
end Go.Proofs.Ythdeehkmlaejfaa.E
/- The engine, part 29: contracts that read the roots among their arguments, which nobody writes meanwhile. -/
namespace Go.Proofs.Ythdeehkmlaejfaa.E
open Go
set_option linter.unusedSimpArgs false
set_option linter.unusedVariables false

/-- An argument, as it is while nobody writes. -/
def view1 (σ : St) : AV → AV
  | .v x => .v x
  | .i sz n g => .i sz n g
  | .ip cs j => .ip cs j
  | .z => .z
  | .p m off => match σ[m]? with
    | some (.lit cs) => match cs.all pureCell && !cs.isEmpty with | true => .ip cs off | false => .dead
    | _ => .dead
  | .s m sz o n => match σ[m]? with
    | some (.tab sz' n' g) => match Nat.beq sz sz' with | true => .i sz n (fun k => g (o + k)) | false => .dead
    | some (.lit cs) => match cs.all pureCell && Nat.blt 0 sz with | true => .i sz n (fun k => (cs.drop ((o + k) * sz)).take sz) | false => .dead
    | _ => .dead
  | _ => .dead
def vok1 (σ : St) : AV → Bool
  | .s m sz o n => match σ[m]? with
    | some (.tab _ n' _) => decide (o + n ≤ n')
    | some (.lit cs) => decide ((o + n) * sz ≤ cs.length) && decide (n * sz < 281474976710656)
    | _ => true
  | _ => true
def view (σ : St) : AV → AV
  | .a us => .a (us.map (view1 σ))
  | u => view1 σ u
def vok (σ : St) : AV → Bool
  | .a us => us.all (vok1 σ)
  | u => vok1 σ u
theorem view1_fit {σ : St} {u : AV} (h : vok1 σ u = true) : Fit [] σ (view1 σ u) u := by
  cases u with
  | v x => exact .v x
  | i sz n g => exact .i fun _ _ => rfl
  | ip cs j => exact .ip
  | z => exact .z
  | p m off =>
    simp only [view1]
    split
    · rename_i cs hm
      split
      · rename_i hc
        simp only [Bool.and_eq_true, Bool.not_eq_true', List.isEmpty_eq_false_iff] at hc
        exact .fzp hm (by simp) hc.1 hc.2
      · exact .dead _
    · exact .dead _
  | s m sz o n =>
    simp only [view1]
    simp only [vok1] at h
    split
    · rename_i sz' n' g hm
      simp only [hm, decide_eq_true_eq] at h
      split
      · rename_i hc
        obtain rfl := Nat.eq_of_beq_eq_true hc
        exact .fz hm (by simp) h fun _ _ => rfl
      · exact .dead _
    · rename_i cs hm
      simp only [hm, Bool.and_eq_true, decide_eq_true_eq] at h
      split
      · rename_i hc
        simp only [Bool.and_eq_true, Nat.blt_eq] at hc
        exact .fzl hm (by simp) hc.1 hc.2 h.1 h.2 fun _ _ => rfl
      · exact .dead _
    · exact .dead _
  | _ => exact .dead _
theorem view_fit {σ : St} {u : AV} (h : vok σ u = true) : Fit [] σ (view σ u) u := by
  cases u with
  | a us =>
    simp only [vok] at h
    refine .a (by simp) fun k u0 u h0 h1 => ?_
    obtain ⟨y, hy, rfl⟩ := getElem?_map_some h0
    rw [hy] at h1
    obtain rfl := Option.some.inj h1
    exact view1_fit (List.all_eq_true.1 h y (List.mem_of_getElem? hy))
  | v x => exact view1_fit (u := .v x) h
  | p l off => exact view1_fit (u := .p l off) h
  | q l sz i j => exact view1_fit (u := .q l sz i j) h
  | s l sz o n => exact view1_fit (u := .s l sz o n) h
  | i sz n g => exact view1_fit (u := .i sz n g) h
  | ip cs j => exact view1_fit (u := .ip cs j) h
  | z => exact view1_fit (u := .z) h
  | t vs => exact .dead _
  | f fn us cs => exact .dead _
  | y l => exact .dead _
  | mp l => exact .dead _
  | dead => exact .dead _

/-- Values that name nothing. -/
def plain1 : AV → Bool
  | .v x => scal x
  | _ => false
def plain : AV → Bool
  | .v x => scal x
  | .a cs => cs.all plain1
  | .t cs => cs.all fun u => match u with | .a cs => cs.all plain1 | u => plain1 u
  | _ => false
theorem plain_ok {R R' : Nat → Prop} {φ φ' : Phi} {W W' : World} {u : AV} {v : Value} (hp : plain u = true) (h : VR R φ W u v) : VR R' φ' W' u v := by
  have p1 : ∀ {u : AV} {v : Value}, plain1 u = true → VR R φ W u v → VR R' φ' W' u v := fun {u v} hp h => by
    cases u with
    | v x => rw [h.val]; exact .imm (.v _)
    | _ => cases hp
  have ag : ∀ {cs : List AV} {v : Value}, cs.all plain1 = true → VR R φ W (.a cs) v → VR R' φ' W' (.a cs) v := by
    intro cs v hp h
    obtain ⟨vs, rfl, hl, hr⟩ := h.agg
    exact .a hl fun k w x hw hx => p1 (List.all_eq_true.1 hp w (List.mem_of_getElem? hw)) (hr k w x hw hx)
  cases u with
  | v x => exact p1 hp h
  | a cs => exact ag hp h
  | t cs =>
    obtain ⟨vs, rfl, hl, hr⟩ := h.tup
    refine .t hl fun k w x hw hx => ?_
    have := List.all_eq_true.1 hp w (List.mem_of_getElem? hw)
    have hv := hr k w x hw hx
    cases w with
    | a cs => exact ag this hv
    | _ => exact p1 this hv
  | _ => cases hp

def readsL : List AV → List Nat := fun args => args.flatMap rootsAV
/-- A contract of plain values that reads what its arguments name. -/
def borCtr (G : List AV → Option (Bool × AV)) : Ctr := fun args σ => match (readsL args).all fun l => Nat.blt l σ.length with
  | true => match G (args.map (view σ)) with
    | some (c, u) => match plain u with
      | true => some (args.all (vok σ) && c, u, σ)
      | false => none
    | none => none
  | false => none

theorem borCtr_ok {P : Program} {X : Cx} (hX : CxOk P X) {g : Nat} {fn : Func} (hg : P.funcs[g]? = some fn) (hnm : (fn.name == "runtime.NumGoroutine") = false) (hc : fn.body = some (bodyOf fn)) {G : List AV → Option (Bool × AV)}
    (hG : ∀ args u, G args = some (true, u) → runF X fn args [] u []) : CtrOk P g (borCtr G) := by
  refine ⟨⟨fn, hg, hnm, by rw [hc]; rfl⟩, ?_⟩
  intro args σ u σ' h R φ W hs vals hv
  unfold borCtr at h
  split at h
  case h_2 => cases h
  split at h
  case h_2 => cases h
  rename_i c1 u1 hG1
  split at h
  case h_2 => cases h
  rename_i hp
  simp only [Option.some.injEq, Prod.mk.injEq, Bool.and_eq_true] at h
  obtain ⟨⟨hok, rfl⟩, rfl, rfl⟩ := h
  have hs' : Sim (more [] σ φ R) (fun _ => none) [] W := sim_nil (hs.old.to (fun _ h => .inl h) (fun _ _ _ _ h => h) fun b hb => by
    rcases hb with hb | ⟨m, B, k, _, e, w⟩
    · exact hs.old b hb
    · exact (hs.blk m B e).owned w)
  have hren : (ren [] φ) = fun _ => none := by funext l; simp [ren]
  refine (runF_ok hX hg hnm hc (hG _ _ hG1) hs' ⟨by simpa using hv.1, fun k w x hw hx => ?_⟩).mono ?_
  · obtain ⟨y, hy, rfl⟩ := getElem?_map_some hw
    have := (view_fit (List.all_eq_true.1 hok y (List.mem_of_getElem? hy))).ok hs (hv.2 k y x hy hx)
    rwa [hren] at this
  · rintro e W' ⟨v, R', φ', rfl, hT, hv'⟩
    have hno : ∀ b k, ¬ Owned (fun _ => none) [] b k := fun b k ⟨l, B, e, _⟩ => by simp at e
    have hk : Keep (fun _ _ => False) W W' := hT.keep.mono fun b k hw => hno b k hw
    exact ⟨v, R, φ, rfl, ⟨fun _ h => h, fun _ h => .inl h, Ext.refl _, ⟨fun l B e => (hs.blk l B e).kept hk (fun _ h => h) (fun _ _ h => h.elim) (fun _ _ _ h => h.elim) (Ext.refl _) (fun h => h), hs.sep, hs.ro, hs.old.keep hk.size (hk.calm fun _ _ h => h.elim), hs.dom⟩, fun _ _ h => .inl h, hk.mono fun _ _ h => h.elim⟩, plain_ok hp hv'⟩

theorem view1_eq {σ σ₂ : St} {u : AV} (h : ∀ l ∈ rootsAV.rootsAV1 u, σ₂[l]? = σ[l]?) : view1 σ₂ u = view1 σ u ∧ vok1 σ₂ u = vok1 σ u := by
  cases u with
  | p m off => simp only [view1, vok1, h m (by simp [rootsAV.rootsAV1])]; exact ⟨trivial, trivial⟩
  | s m sz o n => simp only [view1, vok1, h m (by simp [rootsAV.rootsAV1])]; exact ⟨trivial, trivial⟩
  | _ => exact ⟨rfl, rfl⟩
theorem view_eq {σ σ₂ : St} {u : AV} (h : ∀ l ∈ rootsAV u, σ₂[l]? = σ[l]?) : view σ₂ u = view σ u ∧ vok σ₂ u = vok σ u := by
  cases u with
  | a us =>
    have each : ∀ y ∈ us, view1 σ₂ y = view1 σ y ∧ vok1 σ₂ y = vok1 σ y := fun y hy => view1_eq fun l hl => h l (by simp only [rootsAV, List.mem_flatMap]; exact ⟨y, hy, hl⟩)
    simp only [view, vok]
    refine ⟨congrArg AV.a (List.map_congr_left fun y hy => (each y hy).1), ?_⟩
    rw [Bool.eq_iff_iff, List.all_eq_true, List.all_eq_true]
    exact ⟨fun g y hy => by rw [← (each y hy).2]; exact g y hy, fun g y hy => by rw [(each y hy).2]; exact g y hy⟩
  | p m off => exact view1_eq (u := .p m off) h
  | s m sz o n => exact view1_eq (u := .s m sz o n) h
  | _ => exact ⟨rfl, rfl⟩
theorem borCtr_reads (G : List AV → Option (Bool × AV)) : CtrReads readsL (borCtr G) := by
  intro args σ c u σ' h
  unfold borCtr at h
  split at h
  case h_2 => cases h
  rename_i hlt
  split at h
  case h_2 => cases h
  rename_i c1 u1 hG1
  split at h
  case h_2 => cases h
  rename_i hp
  simp only [Option.some.injEq, Prod.mk.injEq] at h
  obtain ⟨rfl, rfl, rfl⟩ := h
  have hlt' : ∀ l ∈ readsL args, l < σ.length := fun l hl => by
    have := List.all_eq_true.1 hlt l hl
    simpa [Nat.blt_eq] using this
  refine ⟨rfl, hlt', fun σ₂ h2 => ?_⟩
  have each : ∀ y ∈ args, view σ₂ y = view σ y ∧ vok σ₂ y = vok σ y := fun y hy => view_eq fun l hl => h2 l (by unfold readsL; exact List.mem_flatMap.2 ⟨y, hy, hl⟩)
  unfold borCtr
  have e1 : ((readsL args).all fun l => Nat.blt l σ₂.length) = true := List.all_eq_true.2 fun l hl => by
    have h3 := h2 l hl
    have h4 := hlt' l hl
    rw [List.getElem?_eq_getElem h4] at h3
    simpa [Nat.blt_eq] using lt_of_get? h3
  have e2 : args.map (view σ₂) = args.map (view σ) := List.map_congr_left fun y hy => (each y hy).1
  have e3 : args.all (vok σ₂) = args.all (vok σ) := by
    rw [Bool.eq_iff_iff, List.all_eq_true, List.all_eq_true]
    exact ⟨fun g y hy => by rw [← (each y hy).2]; exact g y hy, fun g y hy => by rw [(each y hy).2]; exact g y hy⟩
  simp only [e1, e2, e3, hG1, hp]
theorem CxOk.bor {P : Program} {X : Cx} (hX : CxOk P X) {g : Nat} {G : List AV → Option (Bool × AV)} (hG : CtrOk P g (borCtr G)) : CxOk P (X.add g (.reads readsL) (borCtr G)) := hX.add hG (borCtr_reads G)
theorem CxOk.loc {P : Program} {X : Cx} (hX : CxOk P X) {g : Nat} {G : List AV → St → Option (Bool × AV × St)} (hG : CtrOk P g (localCtr G)) : CxOk P (X.add g (.foot footL) (localCtr G)) := hX.add hG (localCtr_foot G)
/-- A contract whose arguments are taken as what they fit: rows in one form. -/
theorem pureCtr_can {P : Program} {X : Cx} (hX : CxOk P X) {g : Nat} {fn : Func} (hg : P.funcs[g]? = some fn) (hnm : (fn.name == "runtime.NumGoroutine") = false) (hc : fn.body = some (bodyOf fn)) {G : List AV → Option (Bool × AV)}
    (hG : ∀ args u, G args = some (true, u) → closed u = true ∧ args.all closed = true ∧ ∃ args', FitL [] [] args' args ∧ runF X fn args' [] u []) : CtrOk P g (pureCtr G) := by
  refine ⟨⟨fn, hg, hnm, by rw [hc]; rfl⟩, ?_⟩
  intro args σ u σ' h R φ W hs vals hv
  unfold pureCtr at h
  split at h
  case h_2 => cases h
  rename_i c1 u1 hG1
  simp only [Option.some.injEq, Prod.mk.injEq] at h
  obtain ⟨rfl, rfl, rfl⟩ := h
  obtain ⟨hcl, hca, args', hf, hrun⟩ := hG args u1 hG1
  have hs0 : Sim R (fun _ => none) [] W := sim_nil hs.old
  have hren : (ren [] fun _ => none) = (fun _ => none : Phi) := by funext l; simp [ren]
  have hmore : more [] [] (fun _ => none) R = R := by
    funext b
    refine propext ⟨fun h => ?_, .inl⟩
    rcases h with h | ⟨m, B, k, _, e, _⟩
    · exact h
    · simp at e
  refine (runF_ok hX hg hnm hc hrun hs0 ⟨hf.len.trans hv.1, fun k w x hw hx => ?_⟩).mono ?_
  · obtain ⟨y, hy⟩ := get?_of_lt (l := args) (k := k) (by rw [← hf.len]; exact lt_of_get? hw)
    have := (hf.get k w y hw hy).ok hs0 (closed_ok (List.all_eq_true.1 hca y (List.mem_of_getElem? hy)) (hv.2 k y x hy hx))
    rwa [hren, hmore] at this
  rintro e W' ⟨v, R', φ', rfl, hT, hv'⟩
  exact ⟨v, R', φ, rfl, hT.closed hs, closed_ok hcl hv'⟩
theorem more_nil (R : Nat → Prop) (φ : Phi) : more [] [] φ R = R := by
  funext b
  refine propext ⟨fun h => ?_, .inl⟩
  rcases h with h | ⟨m, B, k, _, e, _⟩
  · exact h
  · simp at e
theorem borCtr_can {P : Program} {X : Cx} (hX : CxOk P X) {g : Nat} {fn : Func} (hg : P.funcs[g]? = some fn) (hnm : (fn.name == "runtime.NumGoroutine") = false) (hc : fn.body = some (bodyOf fn)) {G : List AV → Option (Bool × AV)}
    (hG : ∀ args u, G args = some (true, u) → ∃ args', FitL [] [] args' args ∧ runF X fn args' [] u []) : CtrOk P g (borCtr G) := by
  refine ⟨⟨fn, hg, hnm, by rw [hc]; rfl⟩, ?_⟩
  intro args σ u σ' h R φ W hs vals hv
  unfold borCtr at h
  split at h
  case h_2 => cases h
  split at h
  case h_2 => cases h
  rename_i c1 u1 hG1
  split at h
  case h_2 => cases h
  rename_i hp
  simp only [Option.some.injEq, Prod.mk.injEq, Bool.and_eq_true] at h
  obtain ⟨⟨hok, rfl⟩, rfl, rfl⟩ := h
  have hs' : Sim (more [] σ φ R) (fun _ => none) [] W := sim_nil (hs.old.to (fun _ h => .inl h) (fun _ _ _ _ h => h) fun b hb => by
    rcases hb with hb | ⟨m, B, k, _, e, w⟩
    · exact hs.old b hb
    · exact (hs.blk m B e).owned w)
  have hren : (ren [] φ) = fun _ => none := by funext l; simp [ren]
  have hren0 : (ren [] fun _ => none) = (fun _ => none : Phi) := by funext l; simp [ren]
  obtain ⟨args', hf, hrun⟩ := hG _ _ hG1
  refine (runF_ok hX hg hnm hc hrun hs' ⟨by rw [hf.len]; simpa using hv.1, fun k w x hw hx => ?_⟩).mono ?_
  · obtain ⟨z0, hz⟩ := get?_of_lt (l := args.map (view σ)) (k := k) (by rw [← hf.len]; exact lt_of_get? hw)
    obtain ⟨y, hy, e⟩ := getElem?_map_some hz
    have := (view_fit (List.all_eq_true.1 hok y (List.mem_of_getElem? hy))).ok hs (hv.2 k y x hy hx)
    rw [hren] at this
    subst e
    have := (hf.get k w _ hw hz).ok hs' this
    rwa [hren0, more_nil] at this
  · rintro e W' ⟨v, R', φ', rfl, hT, hv'⟩
    have hno : ∀ b k, ¬ Owned (fun _ => none) [] b k := fun b k ⟨l, B, e, _⟩ => by simp at e
    have hk : Keep (fun _ _ => False) W W' := hT.keep.mono fun b k hw => hno b k hw
    exact ⟨v, R, φ, rfl, ⟨fun _ h => h, fun _ h => .inl h, Ext.refl _, ⟨fun l B e => (hs.blk l B e).kept hk (fun _ h => h) (fun _ _ h => h.elim) (fun _ _ _ h => h.elim) (Ext.refl _) (fun h => h), hs.sep, hs.ro, hs.old.keep hk.size (hk.calm fun _ _ h => h.elim), hs.dom⟩, fun _ _ h => .inl h, hk.mono fun _ _ h => h.elim⟩, plain_ok hp hv'⟩
/-- The end, where roots are told. -/
theorem finS {nb : Nat} {u u' : AV} {σ σ' : St} (ρ : List Nat) (hn : ρ.Nodup) (h1 : Fit ρ σ' u u') (h2 : FitS ρ σ' ρ σ) (hid : idUpto nb ρ = true) : tr (Fin nb u σ u' σ') := .mk ρ hn ⟨h1, trivial⟩ h2 hid
/-- The end, where roots are told; one that is gone may have moved. -/
theorem finD {nb : Nat} {u u' : AV} {σ σ' : St} (ρ : List Nat) (hn : uniqB ρ σ = true) (h1 : Fit ρ σ' u u') (h2 : FitS ρ σ' ρ σ) (hid : idUpto nb ρ = true) : tr (Fin nb u σ u' σ') := .mkd ρ hn ⟨h1, trivial⟩ h2 hid
end Go.Proofs.Ythdeehkmlaejfaa.E
/- The engine, part 31: arguments by what they fit; rows that are put together. -/
namespace Go.Proofs.Ythdeehkmlaejfaa.E
open Go
set_option linter.unusedSimpArgs false
set_option linter.unusedVariables false

/-- A kind of arguments: how they are read (where a condition holds), and what they are taken as. -/
structure Ad (α : Type) where
  dec : AV → Option (Bool × α)
  enc : α → AV
  p : α → Prop
  ok : ∀ {u a}, dec u = some (true, a) → Fit [] [] (enc a) u ∧ p a

def adI : Ad Int := ⟨fun u => match u with | .v (.int .i64 a) => some (true, a) | _ => none, i64, fun _ => True, fun {u a} h => (by split at h <;> first | (obtain ⟨_, rfl⟩ := Prod.mk.inj (Option.some.inj h); exact ⟨.v _, trivial⟩) | cases h)⟩
def adB : Ad Bool := ⟨fun u => match u with | .v (.bool a) => some (true, a) | _ => none, boo, fun _ => True, fun {u a} h => (by split at h <;> first | (obtain ⟨_, rfl⟩ := Prod.mk.inj (Option.some.inj h); exact ⟨.v _, trivial⟩) | cases h)⟩
def adU : Ad Int := ⟨fun u => match u with | .v (.int .u64 a) => some (true, a) | _ => none, u64, fun _ => True, fun {u a} h => (by split at h <;> first | (obtain ⟨_, rfl⟩ := Prod.mk.inj (Option.some.inj h); exact ⟨.v _, trivial⟩) | cases h)⟩
/-- A kind of values that fit themselves. -/
def adD {α : Type} (d : Dec α) (h : ∀ a, Fit [] [] (d.enc a) (d.enc a)) : Ad α := ⟨fun u => (d.dec u).map fun a => (true, a), d.enc, fun _ => True, fun {u a} hd => by
  cases hu : d.dec u with
  | none => rw [hu] at hd; cases hd
  | some b =>
    rw [hu] at hd
    obtain ⟨_, rfl⟩ := Prod.mk.inj (Option.some.inj hd)
    rw [d.ok hu]
    exact ⟨h b, trivial⟩⟩
/-- Rows; nil is the row of no elements. -/
def adR {α : Type} (e : Elt α) : Ad (List α) := ⟨fun u => match u with
  | .v (.slice none 0 0) => some (true, [])
  | .z => some (true, [])
  | .i sz n g => some (isRow e n sz g, rows e n g)
  | _ => none, row e, fun l => l.length < 281474976710656, fun {u a} h => by
  split at h
  · obtain ⟨_, rfl⟩ := Prod.mk.inj (Option.some.inj h); exact ⟨.ni, by show 0 < _; decide⟩
  · obtain ⟨_, rfl⟩ := Prod.mk.inj (Option.some.inj h); exact ⟨.zi, by show 0 < _; decide⟩
  · rename_i sz n g
    simp only [Option.some.injEq, Prod.mk.injEq, isRow, Bool.and_eq_true] at h
    obtain ⟨⟨h1, h2, h3⟩, rfl⟩ := h
    obtain rfl := Nat.eq_of_beq_eq_true h1
    exact ⟨fit_row e h2 rfl, by rw [rows_len]; simpa [Nat.blt_eq] using h3⟩
  · cases h⟩

section
variable {α β γ δ ε : Type} {τ : Type}
/-- A condition more. -/
def andC (c : Bool) : Option (Bool × τ) → Option (Bool × τ)
  | some (c', v) => some (c' && c, v)
  | none => none
theorem andC_some {c : Bool} {r : Option (Bool × τ)} {v : τ} (h : andC c r = some (true, v)) : c = true ∧ r = some (true, v) := by
  cases r with
  | none => cases h
  | some p =>
    obtain ⟨c', v'⟩ := p
    simp only [andC, Option.some.injEq, Prod.mk.injEq, Bool.and_eq_true] at h
    obtain ⟨⟨rfl, rfl⟩, rfl⟩ := h
    exact ⟨rfl, rfl⟩
def ad1 (d : Ad α) (F : α → Option (Bool × τ)) : List AV → Option (Bool × τ)
  | [u] => match d.dec u with | some (c, a) => andC c (F a) | none => none
  | _ => none
theorem ad1_some {d : Ad α} {F : α → Option (Bool × τ)} {args : List AV} {v : τ} (h : ad1 d F args = some (true, v)) : ∃ a, FitL [] [] [d.enc a] args ∧ d.p a ∧ F a = some (true, v) := by
  unfold ad1 at h
  split at h
  · rename_i u
    split at h
    · rename_i c a hd
      obtain ⟨hc, h'⟩ := andC_some h
      subst hc
      exact ⟨a, ⟨(d.ok hd).1, trivial⟩, (d.ok hd).2, h'⟩
    · cases h
  · cases h
def ad2 (d : Ad α) (e : Ad β) (F : α → β → Option (Bool × τ)) : List AV → Option (Bool × τ)
  | u :: us => match d.dec u with | some (c, a) => andC c (ad1 e (F a) us) | none => none
  | _ => none
theorem ad2_some {d : Ad α} {e : Ad β} {F : α → β → Option (Bool × τ)} {args : List AV} {v : τ} (h : ad2 d e F args = some (true, v)) : ∃ a b, FitL [] [] [d.enc a, e.enc b] args ∧ d.p a ∧ e.p b ∧ F a b = some (true, v) := by
  unfold ad2 at h
  split at h
  · rename_i u us
    split at h
    · rename_i c a hd
      obtain ⟨hc, h'⟩ := andC_some h
      subst hc
      obtain ⟨b, h1, h2, h3⟩ := ad1_some h'
      exact ⟨a, b, ⟨(d.ok hd).1, h1⟩, (d.ok hd).2, h2, h3⟩
    · cases h
  · cases h
def ad3 (d : Ad α) (e : Ad β) (f : Ad γ) (F : α → β → γ → Option (Bool × τ)) : List AV → Option (Bool × τ)
  | u :: us => match d.dec u with | some (c, a) => andC c (ad2 e f (F a) us) | none => none
  | _ => none
theorem ad3_some {d : Ad α} {e : Ad β} {f : Ad γ} {F : α → β → γ → Option (Bool × τ)} {args : List AV} {v : τ} (h : ad3 d e f F args = some (true, v)) : ∃ a b c, FitL [] [] [d.enc a, e.enc b, f.enc c] args ∧ d.p a ∧ e.p b ∧ f.p c ∧ F a b c = some (true, v) := by
  unfold ad3 at h
  split at h
  · rename_i u us
    split at h
    · rename_i c a hd
      obtain ⟨hc, h'⟩ := andC_some h
      subst hc
      obtain ⟨b, c, h1, h2, h3, h4⟩ := ad2_some h'
      exact ⟨a, b, c, ⟨(d.ok hd).1, h1⟩, (d.ok hd).2, h2, h3, h4⟩
    · cases h
  · cases h
def ad4 (d : Ad α) (e : Ad β) (f : Ad γ) (g : Ad δ) (F : α → β → γ → δ → Option (Bool × τ)) : List AV → Option (Bool × τ)
  | u :: us => match d.dec u with | some (c, a) => andC c (ad3 e f g (F a) us) | none => none
  | _ => none
theorem ad4_some {d : Ad α} {e : Ad β} {f : Ad γ} {g : Ad δ} {F : α → β → γ → δ → Option (Bool × τ)} {args : List AV} {v : τ} (h : ad4 d e f g F args = some (true, v)) : ∃ a b c x, FitL [] [] [d.enc a, e.enc b, f.enc c, g.enc x] args ∧ d.p a ∧ e.p b ∧ f.p c ∧ g.p x ∧ F a b c x = some (true, v) := by
  unfold ad4 at h
  split at h
  · rename_i u us
    split at h
    · rename_i c a hd
      obtain ⟨hc, h'⟩ := andC_some h
      subst hc
      obtain ⟨b, c, x, h1, h2, h3, h4, h5⟩ := ad3_some h'
      exact ⟨a, b, c, x, ⟨(d.ok hd).1, h1⟩, (d.ok hd).2, h2, h3, h4, h5⟩
    · cases h
  · cases h
end

/-! ### Rows that are put together -/
section
variable {α : Type} (e : Elt α)
theorem rows_congr {n : Nat} {g g' : Nat → List AV} (h : ∀ k, k < n → g k = g' k) : rows e n g = rows e n g' := by
  unfold rows
  exact List.map_congr_left fun k hk => by rw [h k (List.mem_range.1 hk)]
theorem okRow_congr {n : Nat} {g g' : Nat → List AV} (h : ∀ k, k < n → g k = g' k) : okRow e n g = okRow e n g' := by
  unfold okRow
  rw [Bool.eq_iff_iff, List.all_eq_true, List.all_eq_true]
  exact ⟨fun a k hk => by rw [← h k (List.mem_range.1 hk)]; exact a k hk, fun a k hk => by rw [h k (List.mem_range.1 hk)]; exact a k hk⟩
/-- What a row of elements is, and that it is one. -/
structure RowIs (n : Nat) (g : Nat → List AV) (l : List α) : Prop where
  len : n = l.length
  get : ∀ k, k < n → g k = e.enc (l.getD k e.dflt)
theorem RowIs.rows {n : Nat} {g : Nat → List AV} {l : List α} (h : RowIs e n g l) : rows e n g = l := by
  rw [rows_congr e h.get, h.len, rows_row]
theorem RowIs.okRow {n : Nat} {g : Nat → List AV} {l : List α} (h : RowIs e n g l) : okRow e n g = true := by
  rw [okRow_congr e h.get, okRow_row]
theorem RowIs.isRow {n : Nat} {g : Nat → List AV} {l : List α} (h : RowIs e n g l) (hl : l.length < 281474976710656) : isRow e n e.sz g = true := by
  unfold E.isRow
  rw [Nat.beq_refl, h.okRow]
  simpa [Nat.blt_eq, h.len] using hl
theorem RowIs.row (l : List α) : RowIs e l.length (fun k => e.enc (l.getD k e.dflt)) l := ⟨rfl, fun _ _ => rfl⟩
theorem RowIs.joined {n m : Nat} {g1 g2 : Nat → List AV} {l1 l2 : List α} (h1 : RowIs e n g1 l1) (h2 : RowIs e m g2 l2) : RowIs e (n + m) (joined n g1 g2) (l1 ++ l2) := by
  refine ⟨by rw [List.length_append, h1.len, h2.len], fun k hk => ?_⟩
  unfold E.joined
  rw [List.getD_eq_getElem?_getD, List.getElem?_append, ← h1.len]
  split
  · rename_i hk1
    rw [h1.get k hk1, List.getD_eq_getElem?_getD]
  · rename_i hk1
    rw [h2.get (k - n) (by omega), List.getD_eq_getElem?_getD]
/-- One element more. -/
theorem RowIs.snoc {n : Nat} {g1 g2 : Nat → List AV} {l : List α} {a : α} (h1 : RowIs e n g1 l) (h2 : g2 0 = e.enc a) : RowIs e (n + 1) (E.joined n g1 g2) (l ++ [a]) := RowIs.joined e h1 ⟨rfl, fun k hk => by
  obtain rfl : k = 0 := by simpa using hk
  exact h2⟩
/-- A part of a row. -/
theorem RowIs.part {n m o : Nat} {g : Nat → List AV} {l : List α} (h : RowIs e n g l) (ho : o + m ≤ n) : RowIs e m (fun k => g (o + k)) ((l.drop o).take m) := by
  have hl := h.len
  refine ⟨by rw [List.length_take, List.length_drop]; omega, fun k hk => ?_⟩
  show g (o + k) = _
  rw [h.get (o + k) (by omega), List.getD_eq_getElem?_getD, List.getD_eq_getElem?_getD, List.getElem?_take, if_pos hk, List.getElem?_drop]
theorem RowIs.congr {n : Nat} {g g' : Nat → List AV} {l : List α} (h : RowIs e n g l) (hg : ∀ k, k < n → g' k = g k) : RowIs e n g' l := ⟨h.len, fun k hk => by rw [hg k hk]; exact h.get k hk⟩
theorem RowIs.all {n : Nat} {g : Nat → List AV} {l : List α} (h : RowIs e n g l) : RowIs e n (fun k => g (0 + k)) l := h.congr e fun k _ => by rw [Nat.zero_add]
/-- One element is another one. -/
theorem RowIs.set {n i : Nat} {g : Nat → List AV} {l : List α} (h : RowIs e n g l) {cs : List AV} {a : α} (hc : cs = e.enc a) : RowIs e n (fun k => if k = i then cs else g k) (l.set i a) := by
  refine ⟨by rw [List.length_set]; exact h.len, fun k hk => ?_⟩
  show (if k = i then cs else g k) = _
  rw [List.getD_eq_getElem?_getD, List.getElem?_set]
  split
  · rename_i e
    subst e
    rw [if_pos rfl, if_pos (by rw [← h.len]; exact hk)]
    exact hc
  · rename_i hne
    rw [if_neg (Ne.symm hne), h.get k hk, List.getD_eq_getElem?_getD]
/-- Cells of one element are written. -/
theorem RowIs.put {n i i' j : Nat} {g : Nat → List AV} {l : List α} (h : RowIs e n g l) {cs : List AV} {a : α} (hi : i' = i) (hn : i < n) (hc : putCells (e.enc (l.getD i e.dflt)) j cs = e.enc a) : RowIs e n (fun k => if k = i' then putCells (g k) j cs else g k) (l.set i a) := by
  subst hi
  refine (RowIs.set e h (cs := putCells (g i') j cs) (a := a) (by rw [h.get i' hn]; exact hc)).congr e fun k hk => ?_
  split
  · rename_i e; rw [e]
  · rfl
theorem RowIs.nil (g : Nat → List AV) : RowIs e 0 g ([] : List α) := ⟨rfl, fun k hk => by omega⟩
theorem RowIs.rep {n : Nat} {g : Nat → List AV} (h : ∀ k, k < n → g k = e.enc e.dflt) : RowIs e n g (List.replicate n e.dflt) := by
  refine ⟨by simp, fun k hk => ?_⟩
  rw [h k hk, List.getD_eq_getElem?_getD, List.getElem?_replicate, if_pos hk]; rfl
end
/-- A row's memory fits another form of it. -/
theorem fit_tab {α : Type} {e : Elt α} {ρ : List Nat} {σ : St} {n : Nat} {g : Nat → List AV} {l : List α} (h : RowIs e n g l) : FitB ρ σ (tabl e l) (.tab e.sz n g) := by
  have := h.len
  subst this
  exact .tab fun k hk => (h.get k hk).symm

/-- A part of memory that is read. -/
theorem bor1 {σ : St} {l sz o n n' : Nat} {g : Nat → List AV} (hσ : σ[l]? = some (.tab sz n' g)) (h : o + n ≤ n') : [AV.s l sz o n].all (vok σ) = true := by
  simp only [List.all_cons, List.all_nil, vok, vok1, hσ, Bool.and_true]
  exact decide_eq_true h
theorem bor2 {σ : St} {l sz o n n' l' sz' o' m m' : Nat} {g g' : Nat → List AV} (hσ : σ[l]? = some (.tab sz n' g)) (h : o + n ≤ n') (hσ' : σ[l']? = some (.tab sz' m' g')) (h' : o' + m ≤ m') : [AV.s l sz o n, AV.s l' sz' o' m].all (vok σ) = true := by
  simp only [List.all_cons, List.all_nil, vok, vok1, hσ, hσ', Bool.and_true, decide_eq_true h, decide_eq_true h']
theorem and2 {a b : Bool} (h1 : a = true) (h2 : b = true) : (a && b) = true := by rw [h1, h2]; rfl
theorem rowT {α : Type} {e : Elt α} {n : Nat} {g : Nat → List AV} {l : List α} (h : RowIs e n g l) (hl : l.length < 281474976710656) : isRow e n e.sz g = true := h.isRow e hl
theorem row2 {g : Nat → List AV} {a b : Int} (h0 : g 0 = [u8 a]) (h1 : g 1 = [u8 b]) : RowIs eY 2 g [a, b] := ⟨rfl, fun k hk => by
  match k, hk with
  | 0, _ => exact h0
  | 1, _ => exact h1⟩
theorem joined_zero (g1 g2 : Nat → List AV) : joined 0 g1 g2 = g2 := by funext k; unfold joined; rw [if_neg (by omega)]; rfl
/-! ### Rows of rows -/
section
variable {α : Type} (e : Elt α)
def okR1 : List AV → Bool
  | [.i sz m h] => isRow e m sz h
  | [.v (.slice none 0 0)] => true
  | [.z] => true
  | _ => false
def rowR1 : List AV → List α
  | [.i _ m h] => rows e m h
  | _ => []
def okRR (n : Nat) (g : Nat → List AV) : Bool := (List.range n).all fun k => okR1 e (g k)
def rowsRR (n : Nat) (g : Nat → List AV) : List (List α) := (List.range n).map fun k => rowR1 e (g k)
/-- A row of rows that nobody writes. -/
abbrev rrow (ls : List (List α)) : AV := .i 1 ls.length fun k => [row e (ls.getD k [])]
theorem okR1_fit {ρ : List Nat} {σ : St} {us : List AV} (h : okR1 e us = true) : ∃ u, us = [u] ∧ Fit ρ σ (row e (rowR1 e us)) u ∧ (rowR1 e us).length < 281474976710656 := by
  unfold okR1 at h
  split at h
  · rename_i sz m g
    simp only [isRow, Bool.and_eq_true] at h
    obtain ⟨h1, h2, h3⟩ := h
    obtain rfl := Nat.eq_of_beq_eq_true h1
    exact ⟨_, rfl, fit_row e h2 rfl, by simp only [rowR1, rows_len]; simpa [Nat.blt_eq] using h3⟩
  · exact ⟨_, rfl, .ni, by simp [rowR1]⟩
  · exact ⟨_, rfl, .zi, by simp [rowR1]⟩
  · cases h
def adRR : Ad (List (List α)) := ⟨fun u => match u with
  | .v (.slice none 0 0) => some (true, [])
  | .z => some (true, [])
  | .i sz n g => some (Nat.beq sz 1 && (okRR e n g && Nat.blt n 281474976710656), rowsRR e n g)
  | _ => none, rrow e, fun ls => ls.length < 281474976710656 ∧ ∀ l ∈ ls, l.length < 281474976710656, fun {u a} h => by
  split at h
  · obtain ⟨_, rfl⟩ := Prod.mk.inj (Option.some.inj h); exact ⟨.ni, by simp, fun l hl => by simp at hl⟩
  · obtain ⟨_, rfl⟩ := Prod.mk.inj (Option.some.inj h); exact ⟨.zi, by simp, fun l hl => by simp at hl⟩
  · rename_i sz n g
    simp only [Option.some.injEq, Prod.mk.injEq, Bool.and_eq_true] at h
    obtain ⟨⟨h1, h2, h3⟩, rfl⟩ := h
    obtain rfl := Nat.eq_of_beq_eq_true h1
    have hlen : (rowsRR e n g).length = n := by simp [rowsRR]
    have hget : ∀ k, k < n → (rowsRR e n g).getD k [] = rowR1 e (g k) := fun k hk => by
      simp [rowsRR, List.getD_eq_getElem?_getD, hk]
    have hok : ∀ k, k < n → okR1 e (g k) = true := fun k hk => List.all_eq_true.1 h2 k (List.mem_range.2 hk)
    refine ⟨?_, by rw [hlen]; simpa [Nat.blt_eq] using h3, fun l hl => ?_⟩
    · unfold rrow
      rw [hlen]
      refine .ii (fun k hk => ?_) (fun k hk j u0 u h0 h1 => ?_) fun k hk u hu => ?_
      · obtain ⟨u, e1, _⟩ := okR1_fit (ρ := []) (σ := []) e (hok k hk)
        rw [e1]; rfl
      · obtain ⟨u', e1, e2, _⟩ := okR1_fit (ρ := []) (σ := []) e (hok k hk)
        rw [e1] at h1 e2
        rw [hget k hk, e1] at h0
        cases j with
        | zero => simp at h0 h1; subst h0 h1; exact e2
        | succ j => simp at h0
      · obtain rfl := List.mem_singleton.1 hu; rfl
    · obtain ⟨k, hk, rfl⟩ := List.mem_map.1 hl
      exact (okR1_fit (ρ := []) (σ := []) e (hok k (List.mem_range.1 hk))).choose_spec.2.2
  · cases h⟩
end
end Go.Proofs.Ythdeehkmlaejfaa.E
/- The engine, part 32: contracts that read what their arguments name, also by way of others, and answer with new roots of plain cells. -/
namespace Go.Proofs.Ythdeehkmlaejfaa.E
open Go
set_option linter.unusedSimpArgs false
set_option linter.unusedVariables false

/-- A cell of a row of which the cells may name these roots. -/
def viewR (σ : St) (rs : List Nat) (u : AV) : AV := match namesC u with
  | [] => view1 σ u
  | l :: _ => match memN l rs with
    | true => view1 σ u
    | false => .dead
def vokR (σ : St) (rs : List Nat) (u : AV) : Bool := pureCell (viewR σ rs u) && vok1 σ u
theorem viewR_fit {σ : St} {rs : List Nat} {u : AV} (h : vokR σ rs u = true) : Fit [] σ (viewR σ rs u) u := by
  unfold vokR at h
  simp only [Bool.and_eq_true] at h
  have h1 := view1_fit h.2
  unfold viewR
  split
  · exact h1
  · split
    · exact h1
    · exact .dead _
theorem viewR_cong {σ σ₂ : St} {rs : List Nat} {u : AV} (h : ∀ l ∈ rs, σ₂[l]? = σ[l]?) : viewR σ₂ rs u = viewR σ rs u ∧ vokR σ₂ rs u = vokR σ rs u := by
  have key : viewR σ₂ rs u = viewR σ rs u ∧ (pureCell (viewR σ rs u) = true → vok1 σ₂ u = vok1 σ u) := by
    unfold viewR
    cases u with
    | p l off =>
      simp only [namesC]
      cases hm : memN l rs with
      | false => exact ⟨rfl, fun h => by cases h⟩
      | true =>
        have hl := h l (memN_iff.1 hm)
        exact ⟨by simp only [view1, hl], fun _ => rfl⟩
    | s l sz o n =>
      simp only [namesC]
      cases hm : memN l rs with
      | false => exact ⟨rfl, fun h => by cases h⟩
      | true =>
        have hl := h l (memN_iff.1 hm)
        exact ⟨by simp only [view1, hl], fun _ => by simp only [vok1, hl]⟩
    | q l sz i j =>
      simp only [namesC]
      cases hm : memN l rs with
      | false => exact ⟨rfl, fun _ => rfl⟩
      | true => exact ⟨rfl, fun _ => rfl⟩
    | _ => exact ⟨rfl, fun _ => rfl⟩
  refine ⟨key.1, ?_⟩
  unfold vokR
  rw [key.1]
  cases hp : pureCell (viewR σ rs u) with
  | false => rfl
  | true => rw [key.2 hp]
/-- An argument, as it is while nobody writes; what its cells name too. -/
def viewD1 (σ : St) : AV → AV
  | .p m off => match σ[m]? with
    | some (.lit cs) => match cs.all pureCell with
      | true => view1 σ (.p m off)
      | false => match (cs.map (view1 σ)).all pureCell && !cs.isEmpty with | true => .ip (cs.map (view1 σ)) off | false => .dead
    | _ => .dead
  | .s m sz o n => match σ[m]? with
    | some (.lit cs) => match cs.all pureCell with
      | true => view1 σ (.s m sz o n)
      | false => match (cs.map (view1 σ)).all pureCell && Nat.blt 0 sz with | true => .i sz n (fun k => ((cs.map (view1 σ)).drop ((o + k) * sz)).take sz) | false => .dead
    | some (.tabv sz' _ g rs) => match Nat.beq sz sz' with
      | true => .i sz n (fun k => (g (o + k)).map (viewR σ rs))
      | false => .dead
    | _ => view1 σ (.s m sz o n)
  | u => view1 σ u
def vokD1 (σ : St) : AV → Bool
  | .p m _ => match σ[m]? with
    | some (.lit cs) => match cs.all pureCell with
      | true => true
      | false => cs.all (vok1 σ)
    | _ => true
  | .s m sz o n => match σ[m]? with
    | some (.lit cs) => match cs.all pureCell with
      | true => vok1 σ (.s m sz o n)
      | false => decide ((o + n) * sz ≤ cs.length) && (decide (n * sz < 281474976710656) && cs.all (vok1 σ))
    | some (.tabv _ n' g rs) => decide (o + n ≤ n') && (List.range n).all fun k => (g (o + k)).all (vokR σ rs)
    | _ => vok1 σ (.s m sz o n)
  | u => vok1 σ u
def viewD (σ : St) : AV → AV
  | .a us => .a (us.map (viewD1 σ))
  | u => viewD1 σ u
def vokD (σ : St) : AV → Bool
  | .a us => us.all (vokD1 σ)
  | u => vokD1 σ u
theorem map_fit {σ : St} {cs : List AV} (h : cs.all (vok1 σ) = true) : ∀ (k : Nat) (u0 u : AV), (cs.map (view1 σ))[k]? = some u0 → cs[k]? = some u → Fit [] σ u0 u := fun k u0 u h0 h1 => by
  obtain ⟨y, hy, rfl⟩ := getElem?_map_some h0
  rw [hy] at h1
  obtain rfl := Option.some.inj h1
  exact view1_fit (List.all_eq_true.1 h y (List.mem_of_getElem? hy))
theorem viewD1_fit {σ : St} {u : AV} (h : vokD1 σ u = true) : Fit [] σ (viewD1 σ u) u := by
  cases u with
  | p m off =>
    simp only [viewD1]
    simp only [vokD1] at h
    split
    · rename_i cs hm
      simp only [hm] at h
      split
      · exact view1_fit (by rfl)
      · rename_i hp
        simp only [hp] at h
        split
        · rename_i hc
          simp only [Bool.and_eq_true, Bool.not_eq_true', List.isEmpty_eq_false_iff] at hc
          exact .fzpd hm (by simp) (by simp) (map_fit h) hc.1 (by simpa using hc.2)
        · exact .dead _
    · exact .dead _
  | s m sz o n =>
    simp only [viewD1]
    simp only [vokD1] at h
    split
    · rename_i cs hm
      simp only [hm] at h
      split
      · rename_i hp
        simp only [hp] at h
        exact view1_fit h
      · rename_i hp
        simp only [hp, Bool.and_eq_true, decide_eq_true_eq] at h
        split
        · rename_i hc
          simp only [Bool.and_eq_true, Nat.blt_eq] at hc
          exact .fzd hm (by simp) (by simp) (map_fit h.2.2) hc.1 hc.2 (by simpa using h.1) h.2.1 fun _ _ => rfl
        · exact .dead _
    · rename_i sz' n' g rs hm
      simp only [hm, Bool.and_eq_true, decide_eq_true_eq, List.all_eq_true, List.mem_range] at h
      split
      · rename_i hz
        obtain rfl := Nat.eq_of_beq_eq_true hz
        refine .fzv hm (by simp) h.1 (fun k hk => by simp) (fun k hk j u0 u h0 h1 => ?_) fun k hk u hu => ?_
        · obtain ⟨y, hy, rfl⟩ := getElem?_map_some h0
          rw [hy] at h1
          obtain rfl := Option.some.inj h1
          exact viewR_fit (h.2 k hk y (List.mem_of_getElem? hy))
        · obtain ⟨y, hy, rfl⟩ := List.mem_map.1 hu
          have := h.2 k hk y hy
          unfold vokR at this
          simp only [Bool.and_eq_true] at this
          exact this.1
      · exact .dead _
    · rename_i hno hno2
      refine view1_fit ?_
      split at h
      · rename_i cs hm; exact absurd hm (hno cs)
      · rename_i n' g rs hm; exact absurd hm (hno2 _ n' g rs)
      · exact h
  | v x => exact view1_fit (u := .v x) h
  | q l sz i j => exact view1_fit (u := .q l sz i j) h
  | i sz n g => exact view1_fit (u := .i sz n g) h
  | ip cs j => exact view1_fit (u := .ip cs j) h
  | a us => exact view1_fit (u := .a us) h
  | t us => exact view1_fit (u := .t us) h
  | f fn us cs => exact view1_fit (u := .f fn us cs) h
  | y l => exact view1_fit (u := .y l) h
  | mp l => exact view1_fit (u := .mp l) h
  | z => exact view1_fit (u := .z) h
  | dead => exact view1_fit (u := .dead) h
theorem viewD_fit {σ : St} {u : AV} (h : vokD σ u = true) : Fit [] σ (viewD σ u) u := by
  cases u with
  | a us =>
    simp only [vokD] at h
    refine .a (by simp) fun k u0 u h0 h1 => ?_
    obtain ⟨y, hy, rfl⟩ := getElem?_map_some h0
    rw [hy] at h1
    obtain rfl := Option.some.inj h1
    exact viewD1_fit (List.all_eq_true.1 h y (List.mem_of_getElem? hy))
  | v x => exact viewD1_fit (u := .v x) h
  | p l off => exact viewD1_fit (u := .p l off) h
  | q l sz i j => exact viewD1_fit (u := .q l sz i j) h
  | s l sz o n => exact viewD1_fit (u := .s l sz o n) h
  | i sz n g => exact viewD1_fit (u := .i sz n g) h
  | ip cs j => exact viewD1_fit (u := .ip cs j) h
  | y l => exact viewD1_fit (u := .y l) h
  | mp l => exact viewD1_fit (u := .mp l) h
  | z => exact viewD1_fit (u := .z) h
  | t vs => exact viewD1_fit (u := .t vs) h
  | f fn us cs => exact viewD1_fit (u := .f fn us cs) h
  | dead => exact viewD1_fit (u := .dead) h

/-- What is read: the roots that arguments name, and those that their cells name. -/
def reads2 (args : List AV) (σ : St) : List Nat := readsL args ++ (readsL args).flatMap fun l => rootsB σ[l]?
theorem view1_cong {σ σ₂ : St} {u : AV} (h : ∀ l ∈ rootsAV.rootsAV1 u, σ₂[l]? = σ[l]?) : view1 σ₂ u = view1 σ u ∧ vok1 σ₂ u = vok1 σ u := view1_eq h
theorem views_cong {σ σ₂ : St} {cs : List AV} (h : ∀ u ∈ cs, ∀ l ∈ rootsAV.rootsAV1 u, σ₂[l]? = σ[l]?) : cs.map (view1 σ₂) = cs.map (view1 σ) ∧ cs.all (vok1 σ₂) = cs.all (vok1 σ) := by
  refine ⟨List.map_congr_left fun u hu => (view1_eq (h u hu)).1, ?_⟩
  rw [Bool.eq_iff_iff, List.all_eq_true, List.all_eq_true]
  exact ⟨fun g y hy => by rw [← (view1_eq (h y hy)).2]; exact g y hy, fun g y hy => by rw [(view1_eq (h y hy)).2]; exact g y hy⟩
theorem rootsB_lit {cs : List AV} {u : AV} {l : Nat} (hu : u ∈ cs) (hl : l ∈ rootsAV.rootsAV1 u) : l ∈ rootsB (some (.lit cs)) := by
  simp only [rootsB]
  refine List.mem_flatMap.2 ⟨u, hu, ?_⟩
  cases u <;> first | exact hl | (simp [rootsAV.rootsAV1] at hl)
theorem viewD1_cong {σ σ₂ : St} {u : AV} (h : ∀ l ∈ rootsAV.rootsAV1 u, σ₂[l]? = σ[l]?) (h2 : ∀ l ∈ rootsAV.rootsAV1 u, ∀ m ∈ rootsB σ[l]?, σ₂[m]? = σ[m]?) : viewD1 σ₂ u = viewD1 σ u ∧ vokD1 σ₂ u = vokD1 σ u := by
  have hv := view1_eq h
  cases u with
  | p m off =>
    have hm := h m (by simp [rootsAV.rootsAV1])
    simp only [viewD1, vokD1, hm]
    cases hs : σ[m]? with
    | none => exact ⟨rfl, rfl⟩
    | some B =>
      cases B with
      | lit cs =>
        have hc := views_cong (σ := σ) (σ₂ := σ₂) (cs := cs) fun u hu l hl => h2 m (by simp [rootsAV.rootsAV1]) l (by rw [hs]; exact rootsB_lit hu hl)
        simp only [hc.1, hc.2, hv.1]
        exact ⟨by first | rfl | trivial, by first | rfl | trivial⟩
      | _ => exact ⟨rfl, rfl⟩
  | s m sz o n =>
    have hm := h m (by simp [rootsAV.rootsAV1])
    simp only [viewD1, vokD1, hm]
    cases hs : σ[m]? with
    | none => exact hv
    | some B =>
      cases B with
      | lit cs =>
        have hc := views_cong (σ := σ) (σ₂ := σ₂) (cs := cs) fun u hu l hl => h2 m (by simp [rootsAV.rootsAV1]) l (by rw [hs]; exact rootsB_lit hu hl)
        simp only [hc.1, hc.2, hv.1, hv.2]
        exact ⟨by first | rfl | trivial, by first | rfl | trivial⟩
      | tabv sz' n' g rs =>
        have hc : ∀ u, viewR σ₂ rs u = viewR σ rs u ∧ vokR σ₂ rs u = vokR σ rs u := fun u => viewR_cong fun l hl => h2 m (by simp [rootsAV.rootsAV1]) l (by rw [hs]; exact hl)
        have e1 : viewR σ₂ rs = viewR σ rs := funext fun u => (hc u).1
        have e2 : vokR σ₂ rs = vokR σ rs := funext fun u => (hc u).2
        simp only [e1, e2]
        exact ⟨by first | rfl | trivial, by first | rfl | trivial⟩
      | _ => exact hv
  | _ => exact hv
theorem viewD_cong {σ σ₂ : St} {u : AV} (h : ∀ l ∈ rootsAV u, σ₂[l]? = σ[l]?) (h2 : ∀ l ∈ rootsAV u, ∀ m ∈ rootsB σ[l]?, σ₂[m]? = σ[m]?) : viewD σ₂ u = viewD σ u ∧ vokD σ₂ u = vokD σ u := by
  cases u with
  | a us =>
    have each : ∀ y ∈ us, viewD1 σ₂ y = viewD1 σ y ∧ vokD1 σ₂ y = vokD1 σ y := fun y hy => viewD1_cong (fun l hl => h l (by simp only [rootsAV, List.mem_flatMap]; exact ⟨y, hy, hl⟩)) fun l hl => h2 l (by simp only [rootsAV, List.mem_flatMap]; exact ⟨y, hy, hl⟩)
    simp only [viewD, vokD]
    refine ⟨congrArg AV.a (List.map_congr_left fun y hy => (each y hy).1), ?_⟩
    rw [Bool.eq_iff_iff, List.all_eq_true, List.all_eq_true]
    exact ⟨fun g y hy => by rw [← (each y hy).2]; exact g y hy, fun g y hy => by rw [(each y hy).2]; exact g y hy⟩
  | p m off => exact viewD1_cong (u := .p m off) h h2
  | s m sz o n => exact viewD1_cong (u := .s m sz o n) h h2
  | _ => exact ⟨rfl, rfl⟩

/-- Values that name new roots, or nothing. -/
def newV : AV → Bool
  | .v x => scal x
  | .s _ _ _ _ => true
  | .p _ _ => true
  | _ => false
def newU : AV → Bool
  | .t cs => cs.all fun u => match u with | .a cs => cs.all plain1 | u => newV u
  | .a cs => cs.all newV
  | u => newV u
theorem newV_ok {R R' : Nat → Prop} {φ : Phi} {W : World} {u : AV} {v : Value} (hp : newV u = true) (h : VR R φ W u v) : VR R' φ W u v := by
  cases u with
  | v x => rw [h.val]; exact .imm (.v _)
  | s l sz o n =>
    cases h with
    | imm hi => cases hi
    | nil h => exact .nil h
    | z h => exact .z h
    | s h1 h2 h3 => exact .s h1 h2 h3
  | p l o =>
    cases h with
    | imm hi => cases hi
    | p h => exact .p h
  | _ => cases hp
theorem newU_ok {R R' : Nat → Prop} {φ : Phi} {W : World} {u : AV} {v : Value} (hp : newU u = true) (h : VR R φ W u v) : VR R' φ W u v := by
  have ag : ∀ {cs : List AV} {v : Value}, cs.all newV = true → VR R φ W (.a cs) v → VR R' φ W (.a cs) v := by
    intro cs v hp h
    obtain ⟨vs, rfl, hl, hr⟩ := h.agg
    exact .a hl fun k w x hw hx => newV_ok (List.all_eq_true.1 hp w (List.mem_of_getElem? hw)) (hr k w x hw hx)
  cases u with
  | t cs =>
    obtain ⟨vs, rfl, hl, hr⟩ := h.tup
    refine .t hl fun k w x hw hx => ?_
    have := List.all_eq_true.1 hp w (List.mem_of_getElem? hw)
    have hv := hr k w x hw hx
    cases w with
    | a cs => exact ag (List.all_eq_true.2 fun y hy => by
        have h1 := List.all_eq_true.1 this y hy
        cases y <;> first | exact h1 | cases h1) hv
    | _ => exact newV_ok this hv
  | a cs => exact ag hp h
  | v x => exact newV_ok hp h
  | s l sz o n => exact newV_ok hp h
  | p l o => exact newV_ok hp h
  | _ => cases hp
/-- Roots of plain cells. -/
def PlainS (σ : St) : Prop := ∀ B ∈ σ, (∃ sz n g, B = .tab sz n g ∧ ∀ k, k < n → ∀ u ∈ g k, ∃ x, u = .v x) ∨ (∃ cs, B = .lit cs ∧ ∀ u ∈ cs, newV u = true) ∨ B = .gone
def shiftR (n : Nat) : Nat → Option Nat := fun k => some (n + k)

/-- A contract that reads, and answers with new roots. -/
def freshCtr (G : List AV → Option (Bool × AV × St)) : Ctr := fun args σ => match (reads2 args σ).all fun l => Nat.blt l σ.length with
  | true => match G (args.map (viewD σ)) with
    | some (c, u, σn) => match newU u with
      | true => some (args.all (vokD σ) && c, reAV (shiftR σ.length) u, σ ++ σn.map (reB (shiftR σ.length)))
      | false => none
    | none => none
  | false => none

theorem freshCtr_ok {P : Program} {X : Cx} (hX : CxOk P X) {g : Nat} {fn : Func} (hg : P.funcs[g]? = some fn) (hnm : (fn.name == "runtime.NumGoroutine") = false) (hc : fn.body = some (bodyOf fn)) {G : List AV → Option (Bool × AV × St)}
    (hG : ∀ args u σn, G args = some (true, u, σn) → PlainS σn ∧ ∃ args', FitL [] [] args' args ∧ runF X fn args' [] u σn) : CtrOk P g (freshCtr G) := by
  refine ⟨⟨fn, hg, hnm, by rw [hc]; rfl⟩, ?_⟩
  intro args σ u σ' h R φ W hs vals hv
  unfold freshCtr at h
  split at h
  case h_2 => cases h
  split at h
  case h_2 => cases h
  rename_i c1 u1 σn hG1
  split at h
  case h_2 => cases h
  rename_i hp
  simp only [Option.some.injEq, Prod.mk.injEq, Bool.and_eq_true] at h
  obtain ⟨⟨hok, rfl⟩, rfl, rfl⟩ := h
  have hs' : Sim (more [] σ φ R) (fun _ => none) [] W := sim_nil (hs.old.to (fun _ h => .inl h) (fun _ _ _ _ h => h) fun b hb => by
    rcases hb with hb | ⟨m, B, k, _, e, w⟩
    · exact hs.old b hb
    · exact (hs.blk m B e).owned w)
  have hren : (ren [] φ) = fun _ => none := by funext l; simp [ren]
  have hren0 : (ren [] fun _ => none) = (fun _ => none : Phi) := by funext l; simp [ren]
  obtain ⟨hplain, args', hf, hrun⟩ := hG _ _ _ hG1
  refine (runF_ok hX hg hnm hc hrun hs' ⟨by rw [hf.len]; simpa using hv.1, fun k w x hw hx => ?_⟩).mono ?_
  · obtain ⟨z0, hz⟩ := get?_of_lt (l := args.map (viewD σ)) (k := k) (by rw [← hf.len]; exact lt_of_get? hw)
    obtain ⟨y, hy, e⟩ := getElem?_map_some hz
    have := (viewD_fit (List.all_eq_true.1 hok y (List.mem_of_getElem? hy))).ok hs (hv.2 k y x hy hx)
    rw [hren] at this
    subst e
    have := (hf.get k w _ hw hz).ok hs' this
    rwa [hren0, more_nil] at this
  · rintro e W' ⟨v, R', φn, rfl, hT, hv'⟩
    have hno : ∀ b k, ¬ Owned (fun _ => none) [] b k := fun b k ⟨l, B, e, _⟩ => by simp at e
    have hk : Keep (fun _ _ => False) W W' := hT.keep.mono fun b k hw => hno b k hw
    obtain ⟨φ', hφ'⟩ : ∃ φ' : Phi, φ' = fun l => if l < σ.length then φ l else φn (l - σ.length) := ⟨_, rfl⟩
    have hlow : ∀ {l : Nat}, l < σ.length → φ' l = φ l := fun h => by rw [hφ']; simp only [h, if_true]
    have hhigh : ∀ (k : Nat), φ' (σ.length + k) = φn k := fun k => by
      rw [hφ']; dsimp only; rw [if_neg (by omega)]; congr 1; omega
    have hx : Ext φ φ' := fun l p hp => by
      have : l < σ.length := by
        rcases Nat.lt_or_ge l σ.length with h | h
        · exact h
        · rw [hs.dom l h] at hp; cases hp
      rw [hlow this]; exact hp
    have hsh : ∀ l k p, shiftR σ.length l = some k → φn l = some p → φ' k = some p := fun l k p h1 h2 => by
      obtain rfl := Option.some.inj h1
      rw [hhigh]; exact h2
    have hget : ∀ (m : Nat) (B : Blk), (σ ++ σn.map (reB (shiftR σ.length)))[m]? = some B → (m < σ.length ∧ σ[m]? = some B) ∨ ∃ k B0, m = σ.length + k ∧ σn[k]? = some B0 ∧ B = reB (shiftR σ.length) B0 := fun m B hB => by
      rw [List.getElem?_append] at hB
      split at hB
      · rename_i hm; exact .inl ⟨hm, hB⟩
      · rename_i hm
        obtain ⟨B0, h1, h2⟩ := getElem?_map_some hB
        exact .inr ⟨m - σ.length, B0, by omega, h1, h2.symm⟩
    have hown : ∀ {k : Nat} {B0 : Blk} {b j : Nat}, own φ' (σ.length + k) (reB (shiftR σ.length) B0) b j → own φn k B0 b j := fun h => reB_own (hhigh _).symm h
    have hcalm : Calm R W' W' := fun _ _ _ _ h => h
    have nblk : ∀ (k : Nat) (B0 : Blk), σn[k]? = some B0 → BlkOk R φ' W' (σ.length + k) (reB (shiftR σ.length) B0) := fun k B0 e0 => by
      have hb := hT.sim.blk k B0 e0
      rcases hplain B0 (List.mem_of_getElem? e0) with ⟨sz, n, g, rfl, hpl⟩ | ⟨cs, rfl, hpl⟩ | rfl
      · obtain ⟨h1, h2, h3, h4⟩ := hb
        refine ⟨h1, h2, h3, ?_⟩
        rcases h4 with ⟨e1, e2⟩ | ⟨b, o, e1, fr, hc⟩
        · exact .inl ⟨by rw [hhigh]; exact e1, e2⟩
        · refine .inr ⟨b, o, by rw [hhigh]; exact e1, fr, fun i j u hi hu => ?_⟩
          obtain ⟨x, hx1, hx2⟩ := hc i j u hi hu
          obtain ⟨y, rfl⟩ := hpl i hi u (List.mem_of_getElem? hu)
          have hval : x = y := by cases hx2.1; rfl
          subst hval
          exact ⟨_, hx1, .v _, hx2.2⟩
      · obtain ⟨b, o, e1, fr, hc⟩ := hb
        refine ⟨b, o, by rw [hhigh]; exact e1, fr, fun i u hu => ?_⟩
        obtain ⟨y, hy, rfl⟩ := getElem?_map_some hu
        obtain ⟨x, hx1, hx2⟩ := hc i y hy
        exact ⟨x, hx1, reAV_ok (fun _ h => h) hcalm (fun _ => Nat.le_refl _) hsh (newV_ok (hpl y (List.mem_of_getElem? hy)) hx2)⟩
      · trivial
    refine ⟨v, R, φ', rfl, ⟨fun _ h => h, fun _ h => .inl h, hx, ⟨fun l B e => ?_, fun l l' B B' hne e e' b k k' w w' => ?_, fun l B e b k w hR => ?_, hs.old.keep hk.size (hk.calm fun _ _ h => h.elim), fun l hl => ?_⟩, fun b k ⟨l, B, e, w⟩ => ?_, hk.mono fun _ _ h => h.elim⟩, reAV_ok (fun _ h => h) hcalm (fun _ => Nat.le_refl _) hsh (newU_ok hp hv')⟩
    · rcases hget l B e with ⟨h1, h2⟩ | ⟨k, B0, rfl, h1, rfl⟩
      · exact (hs.blk l B h2).kept hk (fun _ h => h) (fun _ _ h => h.elim) (fun _ _ _ h => h.elim) hx (fun e => (hlow h1).trans e)
      · exact nblk k B0 h1
    · rcases hget l B e with ⟨h1, h2⟩ | ⟨j, B0, rfl, h1, rfl⟩
      · have w1 := (own_ext (hlow h1)).1 w
        rcases hget l' B' e' with ⟨h1', h2'⟩ | ⟨j', B0', rfl, h1', rfl⟩
        · exact hs.sep l l' B B' hne h2 h2' b k k' w1 ((own_ext (hlow h1')).1 w')
        · rcases hT.reg b k' ⟨j', B0', h1', hown w'⟩ with h | h
          · exact hno b k' h
          · have := (hs.blk l B h2).owned w1; omega
      · have w1 := hown w
        rcases hget l' B' e' with ⟨h1', h2'⟩ | ⟨j', B0', rfl, h1', rfl⟩
        · rcases hT.reg b k ⟨j, B0, h1, w1⟩ with h | h
          · exact hno b k h
          · have := (hs.blk l' B' h2').owned ((own_ext (hlow h1')).1 w'); omega
        · exact hT.sim.sep j j' B0 B0' (fun he => hne (by rw [he])) h1 h1' b k k' w1 (hown w')
    · rcases hget l B e with ⟨h1, h2⟩ | ⟨j, B0, rfl, h1, rfl⟩
      · exact hs.ro l B h2 b k ((own_ext (hlow h1)).1 w) hR
      · rcases hT.reg b k ⟨j, B0, h1, hown w⟩ with h | h
        · exact hno b k h
        · have := hs.old b hR; omega
    · simp only [List.length_append, List.length_map] at hl
      rw [show l = σ.length + (l - σ.length) by omega, hhigh]
      exact hT.sim.dom _ (by omega)
    · rcases hget l B e with ⟨h1, h2⟩ | ⟨j, B0, rfl, h1, rfl⟩
      · exact .inl ⟨l, B, h2, (own_ext (hlow h1)).1 w⟩
      · rcases hT.reg b k ⟨j, B0, h1, hown w⟩ with h | h
        · exact (hno b k h).elim
        · exact .inr h

theorem freshCtr_foot (G : List AV → Option (Bool × AV × St)) : CtrFoot reads2 (freshCtr G) := by
  intro args σ c u σ' h
  unfold freshCtr at h ⊢
  split at h
  case h_2 => cases h
  rename_i hlt
  split at h
  case h_2 => cases h
  rename_i c1 u1 σn hG1
  split at h
  case h_2 => cases h
  rename_i hp
  simp only [Option.some.injEq, Prod.mk.injEq] at h
  obtain ⟨rfl, rfl, rfl⟩ := h
  have hlt' : ∀ m ∈ reads2 args σ, m < σ.length := fun m hm => by
    have := List.all_eq_true.1 hlt m hm
    simpa [Nat.blt_eq] using this
  refine ⟨hlt', by simp, fun m hm _ => List.getElem?_append_left hm, fun σ₂ hn hg => ?_⟩
  have e0 : reads2 args σ₂ = reads2 args σ := by
    unfold reads2
    congr 1
    have gen : ∀ L : List Nat, (∀ l ∈ L, rootsB σ₂[l]? = rootsB σ[l]?) → (L.flatMap fun l => rootsB σ₂[l]?) = L.flatMap fun l => rootsB σ[l]? := fun L => by
      induction L with
      | nil => intro _; rfl
      | cons a t ih => intro h; rw [List.flatMap_cons, List.flatMap_cons, h a (List.mem_cons_self), ih fun l hl => h l (List.mem_cons_of_mem _ hl)]
    exact gen _ fun l hl => by rw [hg l (List.mem_append_left _ hl)]
  have each : ∀ y ∈ args, viewD σ₂ y = viewD σ y ∧ vokD σ₂ y = vokD σ y := fun y hy => by
    have hin : ∀ l ∈ rootsAV y, l ∈ readsL args := fun l hl => List.mem_flatMap.2 ⟨y, hy, hl⟩
    exact viewD_cong (fun l hl => hg l (List.mem_append_left _ (hin l hl))) fun l hl m hm => hg m (List.mem_append_right _ (List.mem_flatMap.2 ⟨l, hin l hl, hm⟩))
  have e1 : args.map (viewD σ₂) = args.map (viewD σ) := List.map_congr_left fun y hy => (each y hy).1
  have e2 : args.all (vokD σ₂) = args.all (vokD σ) := by
    rw [Bool.eq_iff_iff, List.all_eq_true, List.all_eq_true]
    exact ⟨fun g y hy => by rw [← (each y hy).2]; exact g y hy, fun g y hy => by rw [(each y hy).2]; exact g y hy⟩
  refine ⟨e0, ?_⟩
  have e3 : ((reads2 args σ₂).all fun l => Nat.blt l σ.length) = true := by rw [e0]; exact hlt
  simp only [hn, e3, e1, hG1, hp, e2]
  refine ⟨σ₂ ++ σn.map (reB (shiftR σ.length)), rfl, by simp [hn], fun m hm _ => List.getElem?_append_left (by omega), fun m hm => ?_⟩
  rcases hm with hm | hm
  · have := hlt' m hm
    rw [List.getElem?_append_left (by omega), List.getElem?_append_left this]
    exact hg m hm
  · rw [List.getElem?_append_right (by omega), List.getElem?_append_right hm, hn]
theorem CxOk.fresh {P : Program} {X : Cx} (hX : CxOk P X) {g : Nat} {G : List AV → Option (Bool × AV × St)} (hG : CtrOk P g (freshCtr G)) : CxOk P (X.add g (.foot reads2) (freshCtr G)) := hX.add hG (freshCtr_foot G)
end Go.Proofs.Ythdeehkmlaejfaa.E
/- The engine, part 28: a law's arguments, of whatever flat types, and its row. -/
namespace Go.Proofs.Ythdeehkmlaejfaa.E
open Go Go.RowKit Go.ChangeShapes Go.WideShapes
set_option linter.unusedSimpArgs false
set_option linter.unusedVariables false

/-- Cells of a struct, field by field. -/
def wtS (w : Nat → List AV → Prop) : List Nat → List AV → Prop
  | [], us => us = []
  | t :: ts, us => ∃ p q, us = p ++ q ∧ w t p ∧ wtS w ts q
/-- Cells of a type. -/
def wt (tt : List TE) : Nat → Nat → List AV → Prop
  | 0, _, _ => False
  | n + 1, t, us => match look tt t with
    | none => False
    | some e => match e.td with
      | .bool => ∃ b, us = [boo b]
      | .int k => ∃ z, us = [.v (.int k z)] ∧ (Lit.int k z).wf = true
      | .string => ∃ s : ByteArray, us = [.v (.string s)] ∧ s.size < 140737488355328
      | .slice el => match look tt el with
        | some ee => ∃ m g, us = [.i ee.size m g] ∧ m * ee.size < 281474976710656 ∧ (∀ k, k < m → wt tt n el (g k)) ∧ ∀ k, m ≤ k → g k = ee.zero.map AV.v
        | none => False
      | .struct flds => wtS (wt tt n) (flds.map (·.1)) us
      | _ => False

def tiles (tt : List TE) : List (Nat × Nat) → Nat → Option Nat
  | [], off => some off
  | (t, o) :: l, off => match look tt t with
    | some e => match Nat.beq o off with | true => tiles tt l (off + e.size) | false => none
    | none => none
/-- Types whose values are whole numbers, truths, texts, rows, and structs of such. -/
def flatT (tt : List TE) : Nat → Nat → Bool
  | 0, _ => false
  | n + 1, t => match look tt t with
    | none => false
    | some e => match e.td with
      | .bool => true
      | .int _ => true
      | .string => true
      | .slice el => match look tt el with
        | some ee => Nat.blt 0 ee.size && (Nat.ble ee.size ee.bytes && flatT tt n el)
        | none => false
      | .struct flds => (match tiles tt flds 0 with | some z => Nat.beq z e.size | none => false) && flds.all fun p => flatT tt n p.1
      | _ => false

theorem look_cells {P : Program} {tt : List TE} (h : TTok P tt) {t : Nat} {e : TE} (he : look tt t = some e) : P.cellsOf t = e.size ∧ P.bytesOf t = e.bytes := by
  obtain ⟨_, i, z, h1, h2, h3, _⟩ := look_ok h he
  exact ⟨by simp [Program.cellsOf, h1, h2], by simp [Program.bytesOf, h1, h3]⟩

theorem mapM_get {α β : Type} {f : α → Option β} : ∀ {l : List α} {r : List β}, l.mapM f = some r → r.length = l.length ∧ ∀ (k : Nat) (x : α), l[k]? = some x → f x = r[k]? := by
  intro l
  induction l with
  | nil => intro r h; simp at h; subst h; exact ⟨rfl, fun k x h => by simp at h⟩
  | cons a l ih =>
    intro r h
    rw [List.mapM_cons] at h
    cases hf : f a with
    | none => simp [hf] at h
    | some b =>
      cases hl : l.mapM f with
      | none => simp [hf, hl] at h
      | some r' =>
        simp [hf, hl] at h
        subst h
        obtain ⟨e1, e2⟩ := ih hl
        refine ⟨by simp [e1], fun k x hk => ?_⟩
        cases k with
        | zero => simp at hk; subst hk; simpa using hf
        | succ k => simpa using e2 k x (by simpa using hk)
theorem cells_get {W : World} {base n : Nat} {a : Addr} {l : List Value} (h : W.cells? base a n = some l) : l.length = n ∧ ∀ j, j < n → W.cell? (a.add j) = l[j]? := by
  unfold World.cells? at h
  split at h
  · obtain ⟨e1, e2⟩ := mapM_get h
    exact ⟨by simpa using e1, fun j hj => e2 j j (List.getElem?_range hj)⟩
  · cases h
theorem cell_none {W : World} {b o : Nat} {sp : Option Nat} {x : Value} (h : W.cell? ⟨b, o, sp⟩ = some x) : sp = none ∧ b < W.heap.size := by
  unfold World.cell? at h
  cases hh : W.heap[b]? with
  | none => simp [hh] at h
  | some ob =>
    refine ⟨?_, (Array.getElem?_eq_some_iff.1 hh).1⟩
    cases sp with
    | none => rfl
    | some z => simp [hh] at h; cases ob <;> simp at h

section
variable {P : Program} {tt : List TE} (ht : TTok P tt) {W : World} {H : Type} {enc : TypeId × Value → H}
include ht

/-- The cells of the fields, one behind the other. -/
theorem trod_fields {n : Nat} {cs : List Value} (ih : ∀ t, flatT tt n t = true → ∀ fuel cs d ps, DataW.trod enc P W 0 (fun _ => true) true fuel t cs = some (d, ps) → (∀ x ∈ d.weights P t, x ≤ reachBytes) →
      ∃ us, wt tt n t us ∧ us.length = cs.length ∧ ∀ (k : Nat) (u : AV) (x : Value), us[k]? = some u → cs[k]? = some x → CR (fun b => b < W.heap.size) W u x) :
    ∀ (l : List (Nat × Nat)) (off : Nat), tiles tt l off = some cs.length → (l.all fun p => flatT tt n p.1) = true → (∀ p ∈ l, ∃ fuel d ps, DataW.trod enc P W 0 (fun _ => true) true fuel p.1 ((cs.drop p.2).take (P.cellsOf p.1)) = some (d, ps) ∧ ∀ x ∈ d.weights P p.1, x ≤ reachBytes) →
      off ≤ cs.length ∧ ∃ us, wtS (wt tt n) (l.map (·.1)) us ∧ off + us.length = cs.length ∧ ∀ (k : Nat) (u : AV) (x : Value), us[k]? = some u → cs[off + k]? = some x → CR (fun b => b < W.heap.size) W u x := by
  intro l
  induction l with
  | nil => intro off h _ _; obtain rfl := Option.some.inj h; exact ⟨Nat.le_refl _, [], rfl, by simp, fun k u x h => by simp at h⟩
  | cons p l ihl =>
    intro off h hfl hp
    obtain ⟨t, o⟩ := p
    simp only [tiles] at h
    split at h
    case h_2 => cases h
    rename_i e he
    split at h
    case h_2 => cases h
    rename_i ho
    obtain rfl := Nat.eq_of_beq_eq_true ho
    simp only [List.all_cons, Bool.and_eq_true] at hfl
    obtain ⟨hle, us, h1, h2, h3⟩ := ihl _ h hfl.2 fun p hm => hp p (List.mem_cons_of_mem _ hm)
    obtain ⟨fuel, d, ps, g1, g2⟩ := hp (t, o) (List.mem_cons_self)
    obtain ⟨us0, k1, k2, k3⟩ := ih t hfl.1 fuel _ d ps g1 g2
    obtain ⟨c1, _⟩ := look_cells ht he
    have hlen : us0.length = e.size := by rw [k2, c1]; simp; omega
    refine ⟨by omega, us0 ++ us, ⟨us0, us, rfl, k1, h1⟩, by simp [hlen]; omega, fun k u x hu hx => ?_⟩
    rw [List.getElem?_append] at hu
    split at hu
    · rename_i hk
      refine k3 k u x hu ?_
      rw [c1, List.getElem?_take_of_lt (by omega), List.getElem?_drop]; exact hx
    · rename_i hk
      refine h3 (k - us0.length) u x hu ?_
      rw [show o + e.size + (k - us0.length) = o + k by omega]; exact hx

/-- What a value of a flat type is told as. -/
theorem trod_wt : ∀ n t, flatT tt n t = true → ∀ fuel cs d ps, DataW.trod enc P W 0 (fun _ => true) true fuel t cs = some (d, ps) → (∀ x ∈ d.weights P t, x ≤ reachBytes) →
    ∃ us, wt tt n t us ∧ us.length = cs.length ∧ ∀ (k : Nat) (u : AV) (x : Value), us[k]? = some u → cs[k]? = some x → CR (fun b => b < W.heap.size) W u x := by
  intro n
  induction n with
  | zero => intro t h; simp [flatT] at h
  | succ n ih =>
    intro t hfl fuel cs d ps h hw
    have one : ∀ {u : AV} {x : Value}, cs = [x] → CR (fun b => b < W.heap.size) W u x → wt tt (n + 1) t [u] → ∃ us, wt tt (n + 1) t us ∧ us.length = cs.length ∧ ∀ (k : Nat) (u : AV) (x : Value), us[k]? = some u → cs[k]? = some x → CR (fun b => b < W.heap.size) W u x := by
      intro u x hcs hc hwt
      refine ⟨[u], hwt, by rw [hcs]; rfl, fun k u' x' hu hx => ?_⟩
      rw [hcs] at hx
      cases k with
      | zero => simp at hu hx; subst hu hx; exact hc
      | succ k => simp at hu
    simp only [flatT] at hfl
    cases he : look tt t with
    | none => simp [he] at hfl
    | some e =>
      obtain ⟨htd, _⟩ := look_ok ht he
      simp only [he] at hfl
      cases td : e.td with
      | bool =>
        rw [td] at htd
        obtain ⟨b, rfl, _⟩ := DataW.trod_bool htd h
        exact one rfl ⟨.v _, rfl⟩ (by simp only [wt, he, td]; exact ⟨b, rfl⟩)
      | int k =>
        rw [td] at htd
        obtain ⟨z, rfl, _, hwf⟩ := DataW.trod_int htd h
        exact one rfl ⟨.v _, rfl⟩ (by simp only [wt, he, td]; exact ⟨z, rfl, hwf⟩)
      | string =>
        rw [td] at htd
        obtain ⟨s, rfl, hx, _⟩ := DataW.trod_string htd h
        have hs : s.size < 140737488355328 := by
          obtain ⟨rfl, _⟩ := Prod.mk.inj hx
          have := hw s.data.toList.length (by simp [DataW.weights])
          have h2 := reachBytes_lt
          have h3 : s.data.toList.length = s.size := by rw [Array.length_toList]; rfl
          omega
        exact one rfl ⟨.v _, rfl⟩ (by simp only [wt, he, td]; exact ⟨s, rfl, hs⟩)
      | slice el =>
        rw [td] at htd
        simp only [td] at hfl
        cases hee : look tt el with
        | none => simp [hee] at hfl
        | some ee =>
          simp only [hee, Bool.and_eq_true] at hfl
          obtain ⟨f1, f2, f3⟩ := hfl
          have f1 : 0 < ee.size := by simpa [Nat.blt_eq] using f1
          have f2 := Nat.le_of_ble_eq_true f2
          obtain ⟨c1, c2⟩ := look_cells ht hee
          have fin : ∀ m g, (m * ee.size < 281474976710656 ∧ (∀ k, k < m → wt tt n el (g k)) ∧ ∀ k, m ≤ k → g k = ee.zero.map AV.v) → wt tt (n + 1) t [.i ee.size m g] := fun m g hm => by
            simp only [wt, he, td, hee]; exact ⟨m, g, rfl, hm⟩
          rcases DataW.trod_slice htd h with ⟨rfl, _⟩ | ⟨a, len, cap, elems, rest, m, rfl, rfl, hx, _, hlc, _, hel, hget, _, _⟩
          · exact one rfl ⟨.nil _ _ _ _, rfl⟩ (fin 0 (fun _ => ee.zero.map AV.v) ⟨by omega, fun k hk => by omega, fun _ _ => rfl⟩)
          · by_cases h0 : len = 0
            · subst h0; exact one rfl ⟨.nil _ _ _ _, rfl⟩ (fin 0 (fun _ => ee.zero.map AV.v) ⟨by omega, fun k hk => by omega, fun _ _ => rfl⟩)
            · obtain ⟨rfl, _⟩ := Prod.mk.inj hx
              have htd' : P.underlying t = some (.slice el) := htd
              simp only [DataW.weights, htd'] at hw
              have hbound : len * ee.size < 281474976710656 := by
                have h1 := hw _ (List.mem_cons_self)
                have h2 := reachBytes_lt
                rw [c2] at h1
                simp only [List.length_map, hel] at h1
                have h3 : len * ee.size ≤ (len + rest.length) * ee.bytes := Nat.mul_le_mul (by omega) f2
                omega
              have each : ∀ k, k < len → ∃ us : List AV, wt tt n el us ∧ us.length = ee.size ∧ ∀ (j : Nat) (u : AV), us[j]? = some u → ∃ x, W.cell? ((a.add (k * ee.size)).add j) = some x ∧ CR (fun b => b < W.heap.size) W u x := by
                intro k hk
                have h1 := hget k hk
                rw [c1] at h1
                obtain ⟨y, hy⟩ := get?_of_lt (l := elems) (k := k) (by omega)
                rw [hy] at h1
                cases hc : W.cells? 0 (a.add (k * ee.size)) ee.size with
                | none => simp [hc] at h1
                | some l =>
                  simp only [hc, Option.bind_some] at h1
                  obtain ⟨l1, l2⟩ := cells_get hc
                  obtain ⟨us, w1, w2, w3⟩ := ih el f3 m l y.1 y.2 h1 fun x hx => hw x (List.mem_cons_of_mem _ (List.mem_append_left _ (by
                    have : ∀ (L : List (DataW H)), y.1 ∈ L → x ∈ DataW.weightsAll P el L := fun L => by
                      induction L with
                      | nil => intro h; simp at h
                      | cons z L ihL =>
                        intro h
                        simp only [DataW.weightsAll]
                        rcases List.mem_cons.1 h with rfl | h
                        · exact List.mem_append_left _ hx
                        · exact List.mem_append_right _ (ihL h)
                    exact this _ (List.mem_map.2 ⟨y, List.mem_of_getElem? hy, rfl⟩))))
                  refine ⟨us, w1, by rw [w2, l1], fun j u hu => ?_⟩
                  have hj : j < ee.size := by have := lt_of_get? hu; omega
                  obtain ⟨x, hx⟩ := get?_of_lt (l := l) (k := j) (by omega)
                  exact ⟨x, by rw [l2 j hj]; exact hx, w3 j u x hu hx⟩
              obtain ⟨b, o, sp⟩ := a
              have hsp : sp = none ∧ b < W.heap.size := by
                obtain ⟨us, _, w2, w3⟩ := each 0 (by omega)
                obtain ⟨u, hu⟩ := get?_of_lt (l := us) (k := 0) (by omega)
                obtain ⟨x, hx, _⟩ := w3 0 u hu
                simp only [Nat.zero_mul, Addr.add, if_true] at hx
                exact cell_none hx
              obtain ⟨rfl, hb⟩ := hsp
              have hg : ∃ g : Nat → List AV, (∀ k, len ≤ k → g k = ee.zero.map AV.v) ∧ ∀ k, k < len → wt tt n el (g k) ∧ (g k).length = ee.size ∧ ∀ (j : Nat) (u : AV), (g k)[j]? = some u → ∃ x, W.cell? (((⟨b, o, none⟩ : Addr).add (k * ee.size)).add j) = some x ∧ CR (fun b => b < W.heap.size) W u x :=
                ⟨fun k => if h : k < len then (each k h).choose else ee.zero.map AV.v, fun k hk => by simp only [dif_neg (show ¬ k < len by omega)], fun k hk => by simp only [hk, dif_pos]; exact (each k hk).choose_spec⟩
              obtain ⟨g, hz, hg⟩ := hg
              have cellAt : ∀ k j u, k < len → (g k)[j]? = some u → ∃ x, W.cell? ⟨b, o + (k * ee.size + j), none⟩ = some x ∧ CR (fun b => b < W.heap.size) W u x := fun k j u hk hu => by
                obtain ⟨x, hx, hc⟩ := (hg k hk).2.2 j u hu
                rw [add_none, add_none, Nat.add_assoc] at hx
                exact ⟨x, hx, hc⟩
              refine one rfl ⟨.i (fun k j => (W.cell? ⟨b, o + (k * ee.size + j), none⟩).getD undef) hb hlc (fun k hk => (hg k hk).2.1) (fun k j u hk hu => ?_) (fun k j u hk hu => ?_) (fun k j u hk hu => ?_) f1 hbound, rfl⟩ (fin len g ⟨hbound, fun k hk => (hg k hk).1, hz⟩)
              all_goals obtain ⟨x, hx, hc⟩ := cellAt k j u hk hu
              · rw [hx]; rfl
              · rw [hx]; exact hc.1
              · rw [hx]; exact hc.2
      | struct flds =>
        rw [td] at htd
        obtain ⟨fs, hu, hfl2, _⟩ := htd
        simp only [td, Bool.and_eq_true] at hfl
        obtain ⟨xs, m, rfl, hx, hlen, hxl, hget⟩ := DataW.trod_struct hu h
        obtain ⟨rfl, _⟩ := Prod.mk.inj hx
        simp only [DataW.weights, hu] at hw
        obtain ⟨c1, _⟩ := look_cells ht he
        have htl : tiles tt flds 0 = some cs.length := by
          have := hfl.1
          split at this
          · rename_i z hz; rw [hz, Nat.eq_of_beq_eq_true this, hlen, c1]
          · cases this
        obtain ⟨_, us, h1, h2, h3⟩ := trod_fields ht (cs := cs) ih flds 0 htl hfl.2 fun p hp => by
          rw [← hfl2] at hp
          obtain ⟨f, hf, rfl⟩ := List.mem_map.1 hp
          obtain ⟨i, hi⟩ := List.getElem?_of_mem hf
          have hi' : fs[i]? = some f := by simpa using hi
          have hg := hget i f hi'
          obtain ⟨y, hy⟩ := get?_of_lt (l := xs) (k := i) (by rw [hxl]; have := lt_of_get? hi; simpa using this)
          rw [hy] at hg
          refine ⟨m, y.1, y.2, hg, fun x hx => hw x (DataW.weights_mem_each (j := i) (t := f.type) (d := y.1) ?_ ?_ x hx)⟩
          · simp [hi']
          · simp [hy]
        exact ⟨us, by simp only [wt, he, td]; exact h1, by omega, fun k u x hu hx => h3 k u x hu (by simpa using hx)⟩
      | array m el => simp [td] at hfl
      | pointer el => simp [td] at hfl
      | map k el => simp [td] at hfl
      | func => simp [td] at hfl
end

theorem wf_i64 {z : Int} (h : (Lit.int .i64 z).wf = true) : -9223372036854775808 ≤ z ∧ z ≤ 9223372036854775807 := by
  simp [Lit.wf, IntKind.min, IntKind.max, IntKind.signed, IntKind.bits] at h; omega
theorem wf_u64 {z : Int} (h : (Lit.int .u64 z).wf = true) : 0 ≤ z ∧ z ≤ 18446744073709551615 := by
  simp [Lit.wf, IntKind.min, IntKind.max, IntKind.signed, IntKind.bits] at h; omega
theorem wf_u8 {z : Int} (h : (Lit.int .u8 z).wf = true) : 0 ≤ z ∧ z ≤ 255 := by
  simp [Lit.wf, IntKind.min, IntKind.max, IntKind.signed, IntKind.bits] at h; omega
theorem wf_u16 {z : Int} (h : (Lit.int .u16 z).wf = true) : 0 ≤ z ∧ z ≤ 65535 := by
  simp [Lit.wf, IntKind.min, IntKind.max, IntKind.signed, IntKind.bits] at h; omega

/-- An argument of a type. -/
def isArg (tt : List TE) (t : Nat) (u : AV) : Prop := match look tt t with
  | none => False
  | some e => match isAggD e.td with
    | true => ∃ us, wt tt 9 t us ∧ u = .a us
    | false => wt tt 9 t [u]
def areArgs (tt : List TE) : List Nat → List AV → Prop
  | [], us => us = []
  | t :: ts, us => ∃ u vs, us = u :: vs ∧ isArg tt t u ∧ areArgs tt ts vs

theorem open_arg {P : Program} {tt : List TE} (ht : TTok P tt) {W : World} {H : Type} {enc : TypeId × Value → H} {t : Nat} (hfl : flatT tt 9 t = true) {v : Value} {d : DataW H} {ps : List MemPlace} {base : Nat}
    (hval : Value.okWide P W .any base t v) (h : DataW.Trod enc P W 0 (fun _ => true) true t v d ps) (hw : ∀ x ∈ d.weights P t, x ≤ reachBytes) : ∃ u, isArg tt t u ∧ VR (fun b => b < W.heap.size) (fun _ => none) W u v := by
  obtain ⟨fuel, hf⟩ := h
  obtain ⟨us, h1, h2, h3⟩ := trod_wt ht 9 t hfl fuel _ d ps hf hw
  cases he : look tt t with
  | none => simp [flatT, he] at hfl
  | some e =>
    obtain ⟨htd, _⟩ := look_ok ht he
    unfold isArg
    simp only [he]
    have scalar : isAggD e.td = false → scal v = true → ∃ u, (match isAggD e.td with | true => ∃ us, wt tt 9 t us ∧ u = .a us | false => wt tt 9 t [u]) ∧ VR (fun b => b < W.heap.size) (fun _ => none) W u v := fun ha hs => by
      have hc : v.cells.toList = [v] := scal_cells hs
      rw [hc] at h2 h3
      match us, h2, h1, h3 with
      | [u], _, h1, h3 => exact ⟨u, by simp only [ha]; exact h1, .imm (h3 0 u v rfl rfl).1⟩
    cases td : e.td with
    | bool => rw [td] at htd; obtain ⟨b, rfl⟩ := okWide_bool htd hval; have := scalar (by rw [td]; rfl) rfl; simpa only [td] using this
    | int k => rw [td] at htd; obtain ⟨b, rfl⟩ := okWide_int htd hval; have := scalar (by rw [td]; rfl) rfl; simpa only [td] using this
    | string => rw [td] at htd; obtain ⟨b, rfl⟩ := okWide_string htd hval; have := scalar (by rw [td]; rfl) rfl; simpa only [td] using this
    | slice el => rw [td] at htd; obtain ⟨a, l, c, rfl⟩ := okWide_slice htd hval; have := scalar (by rw [td]; rfl) rfl; simpa only [td] using this
    | struct flds =>
      rw [td] at htd
      obtain ⟨fs, hu, _⟩ := htd
      obtain ⟨cs, rfl, _⟩ := okWide_struct hu hval
      simp only [isAggD]
      refine ⟨.a us, ⟨us, h1, rfl⟩, ?_⟩
      have : cs = cs.toList.toArray := by simp
      rw [this]
      exact .a (by simpa [Value.cells] using h2) fun k u x hu hx => .imm (h3 k u x hu (by simpa [Value.cells] using hx)).1
    | array m el => simp [flatT, he, td] at hfl
    | pointer el => simp [flatT, he, td] at hfl
    | map k el => simp [flatT, he, td] at hfl
    | func => simp [flatT, he, td] at hfl

/-- A law's arguments. -/
theorem open_args {P : Program} {tt : List TE} (ht : TTok P tt) {W : World} {H : Type} {enc : TypeId × Value → H} {base : Nat} : ∀ (ts : List Nat) (vs : List Value) (ds : List (DataW H)) (ps : List MemPlace), (ts.all (flatT tt 9)) = true →
    (∀ (j : Nat) t v, ts[j]? = some t → vs[j]? = some v → Value.okWide P W .any base t v) → DataW.TrodAll enc P W 0 (fun _ => true) true ts vs ds ps → (∀ x ∈ DataW.weightsEach P ts ds, x ≤ reachBytes) →
    ∃ us, areArgs tt ts us ∧ VRs (fun b => b < W.heap.size) (fun _ => none) W us vs
  | [], vs, ds, ps, _, _, h, _ => by
    obtain ⟨rfl, rfl, rfl⟩ := trodAll_nil h
    exact ⟨[], rfl, rfl, fun k u x h => by simp at h⟩
  | t :: ts, vs, ds, ps, hfl, hval, h, hw => by
    obtain ⟨v, vs', d, ds', p, q, rfl, rfl, rfl, h1, h2⟩ := trodAll_cons h
    simp only [List.all_cons, Bool.and_eq_true] at hfl
    simp only [DataW.weightsEach] at hw
    obtain ⟨u, a1, a2⟩ := open_arg ht hfl.1 (hval 0 t v rfl rfl) h1 fun x hx => hw x (List.mem_append_left _ hx)
    obtain ⟨us, b1, b2, b3⟩ := open_args ht ts vs' ds' q hfl.2 (fun j t v h1 h2 => hval (j + 1) t v (by simpa using h1) (by simpa using h2)) h2 fun x hx => hw x (List.mem_append_right _ hx)
    refine ⟨u :: us, ⟨u, us, rfl, a1, b1⟩, by simp [b2], fun k w x hw hx => ?_⟩
    cases k with
    | zero => simp at hw hx; subst hw hx; exact a2
    | succ k => exact b3 k w x (by simpa using hw) (by simpa using hx)

/-- They are as they were. -/
theorem shut_args {P : Program} (hl : laidOutB P = true) {W W' : World} {H : Type} {enc : TypeId × Value → H} (hb : Below W.heap.size W W') : ∀ (ts : List Nat) (vs : List Value) (ds : List (DataW H)) (ps : List MemPlace), (ts.all fun t => P.readableRec t && decide (t < P.types.size)) = true →
    DataW.TrodAll enc P W 0 (fun _ => true) true ts vs ds ps → DataW.TrodAll enc P W' 0 (fun b => decide (b < W.heap.size)) true ts vs ds ps
  | [], vs, ds, ps, _, h => by
    obtain ⟨rfl, rfl, rfl⟩ := trodAll_nil h
    exact trodAll_mk0
  | t :: ts, vs, ds, ps, hr, h => by
    obtain ⟨v, vs', d, ds', p, q, rfl, rfl, rfl, h1, h2⟩ := trodAll_cons h
    simp only [List.all_cons, Bool.and_eq_true, decide_eq_true_eq] at hr
    have hlt : ∀ x ∈ p, x.block < W.heap.size := by obtain ⟨m, hm⟩ := h1; exact DataW.trod_lt m _ _ _ hm
    exact trodAll_cons_mk (Below.trod hl hr.1.1 hr.1.2 h1 hb hlt) (shut_args hl hb ts vs' ds' q (by simpa using hr.2) h2)
end Go.Proofs.Ythdeehkmlaejfaa.E
