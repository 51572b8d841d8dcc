/- The engine, part 7: the other operations that only reckon. -/
import Derived.Test.YtaneamfnjhiigaaDoorEOpD
namespace Go.Proofs.YtaneamfnjhiigaaDoor.E
open Go
set_option linter.unusedSimpArgs false
set_option linter.unusedVariables false

/-- A field of an aggregate. -/
def aField (tt : List TE) (t : Nat) (x : AV) (fld : Nat) : Option (Bool × AV) :=
  match look tt t, x with
  | some e, .a cs => match e.td with
    | .struct flds => match flds[fld]? with
      | some (ty, o) => (aPart tt ty cs o).map fun u => (true, u)
      | none => none
    | _ => none
  | _, _ => none
theorem aField_ok {P : Program} {tt : List TE} (h : TTok P tt) {t fld : Nat} {R : Nat → Prop} {φ : Phi} {W : World} {x : AV} {v : Value} (hx : VR R φ W x v) {c : Bool} {u : AV} (ha : aField tt t x fld = some (c, u)) :
    ∃ y, (Instr.field t v fld).run P W = .ok y W ∧ VR R φ W u y := by
  unfold aField at ha
  split at ha
  · rename_i e cs he
    split at ha
    · rename_i flds htd
      split at ha
      · rename_i ty o hf
        simp only [Option.map_eq_some_iff] at ha
        obtain ⟨u', hu', hh⟩ := ha
        obtain ⟨rfl, rfl⟩ := Prod.mk.inj hh
        have hlk := (look_ok h he).1
        rw [htd] at hlk
        obtain ⟨fs, hu, hmap, _⟩ := hlk
        obtain ⟨vs, rfl, hl, hr⟩ := hx.agg
        rw [← hmap] at hf
        obtain ⟨f, hf', hff⟩ := getElem?_map_some hf
        obtain ⟨rfl, rfl⟩ := Prod.mk.inj hff
        have hf'' : fs[fld]? = some f := by rw [← hf']; simp
        obtain ⟨y, h1, h2⟩ := aPart_ok h hl hr hu'
        exact ⟨y, by unfold Instr.field; simp only [Sem.run_bind, run_und hu, Result.andThen, hf'', asAgg, Sem.run_pure]; exact h1, h2⟩
      · cases ha
    · cases ha
  · cases ha

def byteAt (s : ByteArray) (i : Int) : Int := if h : i.toNat < s.size then ((s[i.toNat]'h).toNat : Int) else 0
/-- A byte of a text. -/
def aIndex (tt : List TE) (t : Nat) (x ix : AV) : Option (Bool × AV) :=
  match look tt t, x, ix with
  | some e, .v (.string s), .v (.int _ i) => match e.td with
    | .string => some (decide (0 ≤ i) && decide (i < s.size), .v (.int .u8 (byteAt s i)))
    | _ => none
  | _, _, _ => none
theorem aIndex_ok {P : Program} {tt : List TE} (h : TTok P tt) {t : Nat} {R : Nat → Prop} {φ : Phi} {W : World} {x ix : AV} {v w : Value} (hx : VR R φ W x v) (hix : VR R φ W ix w) {c : Bool} {u : AV} (ha : aIndex tt t x ix = some (c, u)) (hc : c = true) :
    ∃ y, (Instr.index t v w).run P W = .ok y W ∧ VR R φ W u y := by
  unfold aIndex at ha
  split at ha
  · rename_i e s k i he
    split at ha
    · rename_i htd
      obtain ⟨rfl, rfl⟩ := Prod.mk.inj (Option.some.inj ha)
      have hlk := (look_ok h he).1
      rw [htd] at hlk
      rw [hx.val, hix.val]
      simp only [Bool.and_eq_true, decide_eq_true_eq] at hc
      obtain ⟨c0, c1⟩ := hc
      have hlt : i.toNat < s.size := by omega
      refine ⟨.int .u8 (byteAt s i), ?_, .imm (.v _)⟩
      have hbt : byteAt s i = ((s[i.toNat]'hlt).toNat : Int) := by unfold byteAt; rw [dif_pos hlt]
      unfold Instr.index
      simp only [Sem.run_bind, asIntOf_int, Result.andThen, run_und hlk, c0, if_true]
      have : s[i.toNat]? = some (s[i.toNat]'hlt) := getElem?_pos s i.toNat hlt
      rw [this, hbt]; rfl
    · cases ha
  · cases ha

def aExtract (x : AV) (k : Nat) : Option (Bool × AV) :=
  match x with
  | .t vs => (vs[k]?).map fun u => (true, u)
  | _ => none
theorem aExtract_ok {P : Program} {R : Nat → Prop} {φ : Phi} {W : World} {x : AV} {v : Value} (hx : VR R φ W x v) {k : Nat} {c : Bool} {u : AV} (ha : aExtract x k = some (c, u)) :
    ∃ y, (Instr.extract v k).run P W = .ok y W ∧ VR R φ W u y := by
  cases x with
  | t us =>
    simp only [aExtract, Option.map_eq_some_iff] at ha
    obtain ⟨u', hu', hh⟩ := ha
    obtain ⟨rfl, rfl⟩ := Prod.mk.inj hh
    obtain ⟨vs, rfl, hl, hr⟩ := hx.tup
    obtain ⟨y, hy⟩ := vs_get hl hu'
    exact ⟨y, by unfold Instr.extract; simp [hy], hr k u' y hu' hy⟩
  | _ => simp [aExtract] at ha

def aLen (tt : List TE) (t : Nat) (x : AV) : Option (Bool × AV) :=
  match look tt t with
  | none => none
  | some e => match e.td, x with
    | .slice _, .s _ _ _ n => some (true, .v (.int .i64 n))
    | .slice _, .i _ n _ => some (true, .v (.int .i64 n))
    | .slice _, .v (.slice none n _) => some (true, .v (.int .i64 n))
    | .slice _, .z => some (true, .v (.int .i64 (0 : Nat)))
    | .string, .v (.string s) => some (true, .v (.int .i64 s.size))
    | .array n _, _ => some (true, .v (.int .i64 n))
    | _, _ => none
theorem aLen_ok {P : Program} {tt : List TE} (h : TTok P tt) {t ty : Nat} {R : Nat → Prop} {φ : Phi} {W : World} {x : AV} {v : Value} (hx : VR R φ W x v) {c : Bool} {u : AV} (ha : aLen tt t x = some (c, u)) :
    ∃ y, (Builtin.len_ #[t] ty #[v]).run P W = .ok y W ∧ VR R φ W u y := by
  unfold aLen at ha
  cases he : look tt t with
  | none => simp [he] at ha
  | some e =>
    simp only [he] at ha
    have hlk := (look_ok h he).1
    have go : ∀ {d : TypeDesc}, P.underlying t = some d → (Builtin.len_ #[t] ty #[v]).run P W = (match d, v with
      | .string, .string s => (pure (goInt s.size) : Sem Value)
      | .array n _, _ => pure (goInt n)
      | .slice _, .slice _ n _ => pure (goInt n)
      | _, _ => Builtin.len_ #[t] ty #[v]).run P W := by
      intro d hd
      split <;> (try rfl) <;> (unfold Builtin.len_; simp [run_und hd, goInt])
    split at ha
    all_goals (try (cases ha; done))
    all_goals (rename_i htd)
    all_goals (obtain ⟨rfl, rfl⟩ := Prod.mk.inj (Option.some.inj ha); rw [htd] at hlk; rw [go hlk])
    · cases hx with
      | imm hi => cases hi
      | nil => exact ⟨_, rfl, .imm (.v _)⟩
      | z => exact ⟨_, rfl, .imm (.v _)⟩
      | s => exact ⟨_, rfl, .imm (.v _)⟩
    · cases hx with
      | imm hi => cases hi with
        | nil => exact ⟨_, rfl, .imm (.v _)⟩
        | i => exact ⟨_, rfl, .imm (.v _)⟩
    · rw [hx.val]; exact ⟨_, rfl, .imm (.v _)⟩
    · cases hx with
      | imm hi => cases hi with
        | z => exact ⟨_, rfl, .imm (.v _)⟩
    · rw [hx.val]; exact ⟨_, rfl, .imm (.v _)⟩
    · exact ⟨_, rfl, .imm (.v _)⟩

/-- How much room a slice has, where that is known. -/
def aCap (tt : List TE) (t : Nat) (x : AV) : Option (Bool × AV) :=
  match look tt t with
  | none => none
  | some e => match e.td, x with
    | .slice _, .v (.slice none _ c) => some (true, .v (.int .i64 c))
    | .slice _, .z => some (true, .v (.int .i64 (0 : Nat)))
    | _, _ => none
theorem aCap_ok {P : Program} {tt : List TE} (h : TTok P tt) {t ty : Nat} {R : Nat → Prop} {φ : Phi} {W : World} {x : AV} {v : Value} (hx : VR R φ W x v) {c : Bool} {u : AV} (ha : aCap tt t x = some (c, u)) :
    ∃ y, (Builtin.cap_ #[t] ty #[v]).run P W = .ok y W ∧ VR R φ W u y := by
  unfold aCap at ha
  cases he : look tt t with
  | none => simp [he] at ha
  | some e =>
    simp only [he] at ha
    have hlk := (look_ok h he).1
    have go : ∀ {el : TypeId} {a : Option Addr} {n c : Nat}, P.underlying t = some (.slice el) → (Builtin.cap_ #[t] ty #[.slice a n c]).run P W = .ok (goInt c) W := by
      intro el a n c hd
      unfold Builtin.cap_
      simp [run_und hd]
    split at ha
    all_goals (try (cases ha; done))
    all_goals (rename_i htd)
    all_goals (obtain ⟨rfl, rfl⟩ := Prod.mk.inj (Option.some.inj ha); rw [htd] at hlk)
    · rw [hx.val, go hlk]; exact ⟨_, rfl, .imm (.v _)⟩
    · cases hx with
      | imm hi => cases hi with
        | z => rw [go hlk]; exact ⟨_, rfl, .imm (.v _)⟩

def aUn (op : UnOp) (x : AV) : Option (Bool × AV) :=
  match op, x with
  | .neg, .v (.int k n) => some (true, .v (.int k (k.wrap (0 - n))))
  | .xor, .v (.int k n) => some (true, .v (.int k (bits .xor k (if k.signed then -1 else k.max) n)))
  | .not, .v (.bool b) => some (true, .v (.bool (!b)))
  | _, _ => none
theorem aUn_ok {P : Program} {R : Nat → Prop} {φ : Phi} {W : World} {op : UnOp} {x : AV} {v : Value} (hx : VR R φ W x v) {c : Bool} {u : AV} (ha : aUn op x = some (c, u)) :
    ∃ y, (Op.unary op v).run P W = .ok y W ∧ VR R φ W u y := by
  unfold aUn at ha
  split at ha
  · obtain ⟨rfl, rfl⟩ := Prod.mk.inj (Option.some.inj ha); rw [hx.val]; exact ⟨_, rfl, .imm (.v _)⟩
  · obtain ⟨rfl, rfl⟩ := Prod.mk.inj (Option.some.inj ha); rw [hx.val]; exact ⟨_, rfl, .imm (.v _)⟩
  · obtain ⟨rfl, rfl⟩ := Prod.mk.inj (Option.some.inj ha); rw [hx.val]; exact ⟨_, rfl, .imm (.v _)⟩
  · cases ha

def aConv (tt : List TE) (src dst : Nat) (x : AV) : Option (Bool × AV) :=
  match look tt src, look tt dst, x with
  | some _, some e, .v (.int _ n) => match e.td with
    | .int k => some (true, .v (.int k (k.wrap n)))
    | _ => none
  | _, _, _ => none
theorem look_und {P : Program} {tt : List TE} (h : TTok P tt) {t : Nat} {e : TE} (he : look tt t = some e) : ∃ d, P.underlying t = some d := by
  have hlk := (look_ok h he).1
  cases htd : e.td <;> rw [htd] at hlk <;> simp only [TD.is] at hlk
  case struct => obtain ⟨fs, h1, _⟩ := hlk; exact ⟨_, h1⟩
  case func => obtain ⟨a, b, c, h1⟩ := hlk; exact ⟨_, h1⟩
  all_goals exact ⟨_, hlk⟩
theorem aConv_ok {P : Program} {tt : List TE} (h : TTok P tt) {src dst : Nat} {R : Nat → Prop} {φ : Phi} {W : World} {x : AV} {v : Value} (hx : VR R φ W x v) {c : Bool} {u : AV} (ha : aConv tt src dst x = some (c, u)) :
    ∃ y, (convert src dst v).run P W = .ok y W ∧ VR R φ W u y := by
  unfold aConv at ha
  split at ha
  · rename_i es ed k n hs hd
    split at ha
    · rename_i kd htd
      obtain ⟨rfl, rfl⟩ := Prod.mk.inj (Option.some.inj ha)
      rw [hx.val]
      obtain ⟨d, hd'⟩ := look_und h hs
      have hlk := (look_ok h hd).1
      rw [htd] at hlk
      have hlk' : P.underlying dst = some (.int kd) := hlk
      exact ⟨.int kd (kd.wrap n), by simp [convert, run_und hd', run_und hlk', Conv.intToInt], .imm (.v _)⟩
    · cases ha
  · cases ha

def aNilCheck (x : AV) : Option (Bool × AV) :=
  match x with
  | .p l off => some (true, .p l off)
  | .q l sz i j => some (true, .q l sz i j)
  | .ip cs j => some (true, .ip cs j)
  | .f (.func g) us cs => some (true, .f (.func g) us cs)
  | _ => none

/-- The greater, or the lesser one. -/
def mm (gt : Bool) (x y : Int) : Int := match gt with | true => if y > x then y else x | false => if y < x then y else x
def aMM (gt : Bool) (xs : List AV) : Option (Bool × AV) :=
  match xs with
  | [.v (.int k a), .v (.int _ b)] => some (true, .v (.int k (mm gt a b)))
  | [.v (.int k a), .v (.int _ b), .v (.int _ c)] => some (true, .v (.int k (mm gt (mm gt a b) c)))
  | _ => none
end Go.Proofs.YtaneamfnjhiigaaDoor.E
