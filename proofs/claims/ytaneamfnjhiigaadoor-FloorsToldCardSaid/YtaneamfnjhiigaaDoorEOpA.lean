/- The engine, part 3: types, operands, reading of memory. -/
import Derived.Test.YtaneamfnjhiigaaDoorESim
namespace Go.Proofs.YtaneamfnjhiigaaDoor.E
open Go
set_option linter.unusedSimpArgs false
set_option linter.unusedVariables false

/-- A type's form, as far as the engine goes by it; a struct's fields by type and offset. -/
inductive TD where
  | bool
  | int (k : IntKind)
  | string
  | struct (flds : List (Nat × Nat))
  | array (n elem : Nat)
  | slice (elem : Nat)
  | pointer (elem : Nat)
  | map (key elem : Nat)
  | func

def TD.is (P : Program) (t : Nat) : TD → Prop
  | .bool => P.underlying t = some .bool
  | .int k => P.underlying t = some (.int k)
  | .string => P.underlying t = some .string
  | .struct flds => ∃ fs : Array Field, P.underlying t = some (.struct fs) ∧ (fs.toList.map fun f => (f.type, f.offset)) = flds ∧ (fs.toList.all fun f => f.name != "_") = true ∧ P.stoodInHeld t = false ∧ P.eqGuardType P.depth t = false
  | .array n e => P.underlying t = some (.array n e)
  | .slice e => P.underlying t = some (.slice e)
  | .pointer e => P.underlying t = some (.pointer e)
  | .map k e => P.underlying t = some (.map k e)
  | .func => ∃ a b c, P.underlying t = some (.func a b c)

/-- What the engine goes by of a type. -/
structure TE where
  t : Nat
  td : TD
  size : Nat
  bytes : Nat
  zero : List Value

def TE.ok (P : Program) (e : TE) : Prop :=
  e.td.is P e.t ∧ ∃ i z, P.info? e.t = some i ∧ i.size = e.size ∧ i.bytes = e.bytes ∧ i.zero = some z ∧ z.cells.toList = e.zero
def TTok (P : Program) (tt : List TE) : Prop := ∀ e ∈ tt, e.ok P

def look (tt : List TE) (t : Nat) : Option TE := tt.find? fun e => Nat.beq e.t t

theorem look_ok {P : Program} {tt : List TE} (h : TTok P tt) {t : Nat} {e : TE} (he : look tt t = some e) :
    e.td.is P t ∧ ∃ i z, P.info? t = some i ∧ i.size = e.size ∧ i.bytes = e.bytes ∧ i.zero = some z ∧ z.cells.toList = e.zero := by
  have h1 := List.mem_of_find?_eq_some he
  have h2 := List.find?_some he
  have h2 := Nat.eq_of_beq_eq_true h2
  rw [← h2]; exact h e h1

def isAggD : TD → Bool
  | .struct _ => true
  | .array _ _ => true
  | _ => false

theorem run_und {P : Program} {t : Nat} {d : TypeDesc} (h : P.underlying t = some d) (W : World) : (underlying t).run P W = .ok d W := by
  simp [underlying, h, go_sem]

section
variable {P : Program} {tt : List TE} (h : TTok P tt) {t : Nat} {e : TE} (he : look tt t = some e) (W : World)
include h he
theorem run_typeInfo : ∃ i z, (typeInfo t).run P W = .ok i W ∧ i.size = e.size ∧ i.bytes = e.bytes ∧ i.zero = some z ∧ z.cells.toList = e.zero := by
  obtain ⟨_, i, z, h1, h2⟩ := look_ok h he
  exact ⟨i, z, by simp [typeInfo, h1, go_sem], h2⟩
theorem run_sizeOf : (sizeOf t).run P W = .ok e.size W := by
  obtain ⟨i, z, h1, h2, _⟩ := run_typeInfo h he W
  unfold sizeOf
  simp [h1, h2, go_sem]
theorem run_zeroValue : ∃ z, (zeroValue t).run P W = .ok z W ∧ z.cells.toList = e.zero := by
  obtain ⟨i, z, h1, h2, h3, h4, h5⟩ := run_typeInfo h he W
  exact ⟨z, by unfold zeroValue; simp [h1, h4, go_sem], h5⟩
theorem run_isAgg : (isAgg t).run P W = .ok (isAggD e.td) W := by
  have := (look_ok h he).1
  unfold isAgg
  simp only [Sem.run_bind]
  cases htd : e.td <;> simp only [htd, TD.is] at this
  case struct => obtain ⟨fs, h1, _⟩ := this; rw [run_und h1]; rfl
  case func => obtain ⟨a, b, c, h1⟩ := this; rw [run_und h1]; rfl
  all_goals (rw [run_und this]; rfl)
end
end Go.Proofs.YtaneamfnjhiigaaDoor.E
