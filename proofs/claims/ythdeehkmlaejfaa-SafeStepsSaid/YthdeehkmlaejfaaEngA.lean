/- The engine, and texts over it, joined: EVal ESim EOpA EOpB EOpC EOpD EOpE EOpF EOpG EOpH. -/
import Derived.WalkKit
import Derived.KernelRfl
import Derived.Laws.StructEq
import Derived.Laws.Bits
import Derived.ChangeKeysEq
import Derived.Laws.BytesString
import Derived.Laws.AppendOwn
/- The engine, part 1: abstract values and abstract memory, what they say of values and of the world, and that this lives on where memory grows or other cells are written. -/
namespace Go.Proofs.Ythdeehkmlaejfaa.E
open Go
set_option linter.unusedSimpArgs false
set_option linter.unusedVariables false

/-- Abstract values. v: itself. p: the cell 'off' of the root l. q: the cell j of the element i (of sz cells each) of the root l. s: n elements from o on of the root l. i: a slice whose elements stay as they are. ip: a place in cells that stay as they are. a: a struct's or an array's cells. t: several results. f: a function value. y: the yield of the loop whose record the root l is. z: a slice of no elements that has no room. mp: the map of the root l. dead: anything. -/
inductive AV where
  | v (x : Value)
  | p (l off : Nat)
  | q (l sz i j : Nat)
  | s (l sz o n : Nat)
  | i (sz n : Nat) (get : Nat → List AV)
  | ip (cells : List AV) (j : Nat)
  | a (cells : List AV)
  | t (vs : List AV)
  | f (fn : Fn) (first caps : List AV)
  | y (l : Nat)
  | mp (l : Nat)
  | z
  | dead
  deriving Inhabited

/-- How code is left. -/
inductive Ex where
  | normal
  | exit (id : Nat)
  | ret
  deriving Inhabited
def Ex.to : Ex → Exit
  | .normal => .normal
  | .exit id => .exit id
  | .ret => .ret
/-- The jump that is left behind a round. -/
def Ex.jump : Ex → Option Code
  | .normal => none
  | .exit id => some (.exit id)
  | .ret => some .ret

def Ex.st : Ex → LoopState
  | .normal => .ready
  | _ => .done

/-- Abstract blocks: cells one by one; n elements of sz cells each; the record of a loop over a function (normal: it is ready; else how it was left), in a round of it; nothing is known; a root that is to be made; elements whose cells may name roots (rs: which ones, told to be read by contracts); a map's entries, and its clock; an iterator over the map of the root m. -/
inductive Blk where
  | lit (cells : List AV)
  | tab (sz n : Nat) (get : Nat → List AV)
  | lrec (e : Ex)
  | held
  | gone
  | free
  | tabv (sz n : Nat) (get : Nat → List AV) (rs : List Nat)
  | map (es : List MapEntry) (c : Nat)
  | iter (m since : Nat) (seen : List Nat) (st : Nat)
  deriving Inhabited

/-- A value of one cell. -/
def scal : Value → Bool
  | .agg _ => false
  | .tuple _ => false
  | _ => true

/-- Values that hang on no root. R: blocks that nobody writes. -/
inductive IR (R : Nat → Prop) (W : World) : AV → Value → Prop
  | v (x : Value) : IR R W (.v x) x
  | nil (sz : Nat) (get : Nat → List AV) (a : Option Addr) (cap : Nat) : IR R W (.i sz 0 get) (.slice a 0 cap)
  | z (a : Option Addr) : IR R W .z (.slice a 0 0)
  | i {sz n : Nat} {get : Nat → List AV} {b o cap : Nat} (x : Nat → Nat → Value) (hb : R b) (hn : n ≤ cap) (hl : ∀ k, k < n → (get k).length = sz)
      (hc : ∀ (k j : Nat) (u : AV), k < n → (get k)[j]? = some u → W.cell? ⟨b, o + (k * sz + j), none⟩ = some (x k j))
      (hx : ∀ (k j : Nat) (u : AV), k < n → (get k)[j]? = some u → IR R W u (x k j)) (hsc : ∀ (k j : Nat) (u : AV), k < n → (get k)[j]? = some u → scal (x k j) = true) (hs : 0 < sz) (hm : n * sz < 281474976710656) :
      IR R W (.i sz n get) (.slice (some ⟨b, o, none⟩) n cap)
  | ip {cells : List AV} {j b o : Nat} (x : Nat → Value) (hb : R b)
      (hc : ∀ (k : Nat) (u : AV), cells[k]? = some u → W.cell? ⟨b, o + k, none⟩ = some (x k)) (hx : ∀ (k : Nat) (u : AV), cells[k]? = some u → IR R W u (x k)) :
      IR R W (.ip cells j) (.pointer (some ⟨b, o + j, none⟩))
  | a {cells : List AV} {vs : List Value} (hl : cells.length = vs.length) (hx : ∀ (k : Nat) (u : AV) (x : Value), cells[k]? = some u → vs[k]? = some x → IR R W u x) : IR R W (.a cells) (.agg vs.toArray)
  | t {cells : List AV} {vs : List Value} (hl : cells.length = vs.length) (hx : ∀ (k : Nat) (u : AV) (x : Value), cells[k]? = some u → vs[k]? = some x → IR R W u x) : IR R W (.t cells) (.tuple vs.toArray)

/-- How many cells a block has. -/
def room (W : World) (b : Nat) : Nat := match W.heap[b]? with | some (.cells c _ _) => c.size | _ => 0

/-- Where the roots lie: nowhere yet (there is no such root), nowhere (a nil slice), in a block from a place on. -/
abbrev Phi := Nat → Option (Option (Nat × Nat))

/-- What an abstract value says of a value. -/
inductive VR (R : Nat → Prop) (φ : Phi) (W : World) : AV → Value → Prop
  | imm {u : AV} {x : Value} (h : IR R W u x) : VR R φ W u x
  | p {l off b o : Nat} (h : φ l = some (some (b, o))) : VR R φ W (.p l off) (.pointer (some ⟨b, o + off, none⟩))
  | q {l sz i j b o : Nat} (h : φ l = some (some (b, o))) : VR R φ W (.q l sz i j) (.pointer (some ⟨b, o + (i * sz + j), none⟩))
  | nil {l sz o : Nat} {a : Option Addr} (h : φ l = some none) : VR R φ W (.s l sz o 0) (.slice a 0 0)
  | z {l sz o b f k : Nat} (h : φ l = some (some (b, f))) : VR R φ W (.s l sz o 0) (.slice (some ⟨b, k, none⟩) 0 0)
  | s {l sz o n b f cap : Nat} (h : φ l = some (some (b, f))) (hn : n ≤ cap) (hr : f + (o + cap) * sz ≤ room W b) : VR R φ W (.s l sz o n) (.slice (some ⟨b, f + o * sz, none⟩) n cap)
  | a {cells : List AV} {vs : List Value} (hl : cells.length = vs.length) (hx : ∀ (k : Nat) (u : AV) (x : Value), cells[k]? = some u → vs[k]? = some x → VR R φ W u x) : VR R φ W (.a cells) (.agg vs.toArray)
  | t {cells : List AV} {vs : List Value} (hl : cells.length = vs.length) (hx : ∀ (k : Nat) (u : AV) (x : Value), cells[k]? = some u → vs[k]? = some x → VR R φ W u x) : VR R φ W (.t cells) (.tuple vs.toArray)
  | f {fn : Fn} {first caps : List AV} {us vs : List Value} (hl' : first.length = us.length) (hx' : ∀ (k : Nat) (u : AV) (x : Value), first[k]? = some u → us[k]? = some x → VR R φ W u x)
      (hl : caps.length = vs.length) (hx : ∀ (k : Nat) (u : AV) (x : Value), caps[k]? = some u → vs[k]? = some x → VR R φ W u x) : VR R φ W (.f fn first caps) (.func fn us.toArray vs.toArray)
  | y {l b : Nat} (h : φ l = some (some (b, 0))) : VR R φ W (.y l) (.func (.yield b) #[] #[])
  | mp {l b : Nat} (h : φ l = some (some (b, 0))) : VR R φ W (.mp l) (.map (some b))
  | dead (x : Value) : VR R φ W .dead x

/-- The cells that a root owns. -/
def own (φ : Phi) (l : Nat) : Blk → Nat → Nat → Prop
  | .lit cs, b, k => ∃ o, φ l = some (some (b, o)) ∧ o ≤ k ∧ k < o + cs.length
  | .tab _ _ _, b, _ => ∃ o, φ l = some (some (b, o))
  | .lrec _, b, _ => φ l = some (some (b, 0))
  | .held, b, _ => φ l = some (some (b, 0))
  | .gone, _, _ => False
  | .free, _, _ => False
  | .tabv _ _ _ _, b, _ => ∃ o, φ l = some (some (b, o))
  | .map _ _, b, _ => φ l = some (some (b, 0))
  | .iter _ _ _ _, b, _ => φ l = some (some (b, 0))

/-- A row of cells none of which is barred from being written. -/
def Free (W : World) (b : Nat) : Prop := ∃ c T, W.heap[b]? = some (.cells c T (0, 0))
theorem Free.frozen {W : World} {b : Nat} (h : Free W b) (k : Nat) : W.frozen? ⟨b, k, none⟩ = false := by
  obtain ⟨c, T, h⟩ := h
  unfold World.frozen?
  simp only [h]
  simp

/-- What an abstract value says of a cell in a row. -/
def CR (R : Nat → Prop) (W : World) (u : AV) (x : Value) : Prop := IR R W u x ∧ scal x = true

/-- What an abstract block says of the world. -/
def BlkOk (R : Nat → Prop) (φ : Phi) (W : World) (l : Nat) : Blk → Prop
  | .lit cs => ∃ b o, φ l = some (some (b, o)) ∧ Free W b ∧ ∀ k u, cs[k]? = some u → ∃ x, W.cell? ⟨b, o + k, none⟩ = some x ∧ VR R φ W u x
  | .tab sz n get => 0 < sz ∧ n * sz < 281474976710656 ∧ (∀ k, k < n → (get k).length = sz) ∧ ((φ l = some none ∧ n = 0) ∨ ∃ b o, φ l = some (some (b, o)) ∧ Free W b ∧
      ∀ k j u, k < n → (get k)[j]? = some u → ∃ x, W.cell? ⟨b, o + (k * sz + j), none⟩ = some x ∧ CR R W u x)
  | .lrec e => ∃ b r, φ l = some (some (b, 0)) ∧ W.heap[b]? = some (.loop r) ∧ r.state = e.st ∧ r.pending = e.jump
  | .held => ∃ b r, φ l = some (some (b, 0)) ∧ W.heap[b]? = some (Obj.loop r)
  | .gone => True
  | .free => φ l = none
  | .tabv sz n get _ => 0 < sz ∧ n * sz < 281474976710656 ∧ (∀ k, k < n → (get k).length = sz) ∧ ((φ l = some none ∧ n = 0) ∨ ∃ b o, φ l = some (some (b, o)) ∧ Free W b ∧
      ∀ k j u, k < n → (get k)[j]? = some u → ∃ x, W.cell? ⟨b, o + (k * sz + j), none⟩ = some x ∧ VR R φ W u x ∧ scal x = true)
  | .map es c => ∃ b, φ l = some (some (b, 0)) ∧ W.heap[b]? = some (.map es.toArray c)
  | .iter m since seen st => ∃ b bm, φ l = some (some (b, 0)) ∧ φ m = some (some (bm, 0)) ∧ W.heap[b]? = some (.mapIter (some bm) since seen.toArray st)

abbrev St := List Blk

/-- The package variables that are read, and what stands in them. -/
def globs : List (Nat × List AV) :=
  []
def Globs (R : Nat → Prop) (W : World) : Prop := ∀ p ∈ globs, IR R W (.ip p.2 0) (.pointer (some ⟨p.1, 0, none⟩))
/-- What was there before. -/
structure Old (R : Nat → Prop) (W : World) : Prop where
  lt : ∀ b, R b → b < W.heap.size
  glob : Globs R W
instance {R : Nat → Prop} {W : World} : CoeFun (Old R W) fun _ => ∀ b, R b → b < W.heap.size := ⟨Old.lt⟩
structure Sim (R : Nat → Prop) (φ : Phi) (σ : St) (W : World) : Prop where
  blk : ∀ l B, σ[l]? = some B → BlkOk R φ W l B
  sep : ∀ l l' B B', l ≠ l' → σ[l]? = some B → σ[l']? = some B' → ∀ b k k', own φ l B b k → ¬ own φ l' B' b k'
  ro : ∀ l B, σ[l]? = some B → ∀ b k, own φ l B b k → ¬ R b
  old : Old R W
  dom : ∀ l, σ.length ≤ l → φ l = none

/-- The world has grown, or cells in F were written: all else is as it was. -/
structure Keep (F : Nat → Nat → Prop) (W W' : World) : Prop where
  os : W'.os = W.os
  tape : W'.tape = W.tape
  output : W'.output = W.output
  size : W.heap.size ≤ W'.heap.size
  obj : ∀ b, b < W.heap.size → (∀ k, ¬ F b k) → W'.heap[b]? = W.heap[b]?
  cells : ∀ b c T fr, W.heap[b]? = some (.cells c T fr) → ∃ c', W'.heap[b]? = some (.cells c' T fr) ∧ c'.size = c.size ∧ ∀ k, ¬ F b k → c'[k]? = c[k]?
  loops : ∀ (b : Nat) (r : Loop), W.heap[b]? = some (Obj.loop r) → ∃ st pe, W'.heap[b]? = some (Obj.loop { r with state := st, pending := pe })

theorem Keep.refl (F : Nat → Nat → Prop) (W : World) : Keep F W W := ⟨rfl, rfl, rfl, Nat.le_refl _, fun _ _ _ => rfl, fun _ c _ _ h => ⟨c, h, rfl, fun _ _ => rfl⟩, fun _ r h => ⟨r.state, r.pending, h⟩⟩

theorem Keep.mono {F G : Nat → Nat → Prop} {W W' : World} (h : Keep F W W') (hg : ∀ b k, F b k → G b k) : Keep G W W' :=
  ⟨h.os, h.tape, h.output, h.size, fun b hb hn => h.obj b hb fun k hk => hn k (hg b k hk), fun b c T fr hc => by
    obtain ⟨c', h1, h2, h3⟩ := h.cells b c T fr hc
    exact ⟨c', h1, h2, fun k hk => h3 k fun hf => hk (hg b k hf)⟩, h.loops⟩

/-- Steps one behind the other: what the later one writes lies in F, or is new. -/
theorem Keep.trans {F G : Nat → Nat → Prop} {A B C : World} (h : Keep F A B) (h' : Keep G B C) (hg : ∀ b k, G b k → F b k ∨ A.heap.size ≤ b) : Keep F A C where
  os := h'.os.trans h.os
  tape := h'.tape.trans h.tape
  output := h'.output.trans h.output
  size := Nat.le_trans h.size h'.size
  obj b hb hn := by
    rw [h'.obj b (Nat.lt_of_lt_of_le hb h.size) fun k hk => (hg b k hk).elim (hn k) (fun hle => by omega), h.obj b hb hn]
  cells b c T fr hc := by
    have hb : b < A.heap.size := by
      rcases Nat.lt_or_ge b A.heap.size with h1 | h1
      · exact h1
      · rw [Array.getElem?_eq_none h1] at hc; cases hc
    obtain ⟨c1, e1, e2, e3⟩ := h.cells b c T fr hc
    obtain ⟨c2, d1, d2, d3⟩ := h'.cells b c1 T fr e1
    refine ⟨c2, d1, d2.trans e2, fun k hk => ?_⟩
    rw [d3 k fun hf => (hg b k hf).elim hk (fun hle => by omega), e3 k hk]
  loops b r hr := by
    obtain ⟨st, pe, e1⟩ := h.loops b r hr
    obtain ⟨st', pe', e2⟩ := h'.loops b _ e1
    exact ⟨st', pe', e2⟩

theorem Keep.cell {F : Nat → Nat → Prop} {W W' : World} (h : Keep F W W') {b k : Nat} (hf : ¬ F b k) {x : Value} (hx : W.cell? ⟨b, k, none⟩ = some x) : W'.cell? ⟨b, k, none⟩ = some x := by
  have hb := World.block_lt_of_cell? W _ hx
  unfold World.cell? at hx ⊢
  simp only [Option.isSome_none, Bool.false_eq_true, if_false] at hx ⊢
  cases ho : W.heap[b]? with
  | none => rw [ho] at hx; cases hx
  | some o =>
    rw [ho] at hx
    cases o with
    | cells c T fr =>
      obtain ⟨c', e1, e2, e3⟩ := h.cells b c T fr ho
      rw [e1]
      show c'[k]? = some x
      rw [e3 k hf]; exact hx
    | _ => cases hx

theorem Keep.frozen {F : Nat → Nat → Prop} {W W' : World} (h : Keep F W W') {b k : Nat} (hb : ∃ c T fr, W.heap[b]? = some (.cells c T fr)) : W'.frozen? ⟨b, k, none⟩ = W.frozen? ⟨b, k, none⟩ := by
  obtain ⟨c, T, fr, hc⟩ := hb
  obtain ⟨c', e1, e2, e3⟩ := h.cells b c T fr hc
  unfold World.frozen?
  simp only [hc, e1]

theorem block_of_cell {W : World} {b k : Nat} {x : Value} (h : W.cell? ⟨b, k, none⟩ = some x) : ∃ c T fr, W.heap[b]? = some (.cells c T fr) := by
  unfold World.cell? at h
  simp only at h
  cases ho : W.heap[b]? with
  | none => rw [ho] at h; cases h
  | some o => cases o with
    | cells c T fr => exact ⟨c, T, fr, rfl⟩
    | _ => rw [ho] at h; cases h

theorem Keep.room_le {F : Nat → Nat → Prop} {W W' : World} (h : Keep F W W') (b : Nat) : room W b ≤ room W' b := by
  unfold room
  cases ho : W.heap[b]? with
  | none => simp
  | some o => cases o with
    | cells c T fr =>
      obtain ⟨c', e1, e2, e3⟩ := h.cells b c T fr ho
      rw [e1]; simp only [e2]; exact Nat.le_refl _
    | _ => simp

/-- Blocks that nobody writes are as they were. -/
def Calm (R : Nat → Prop) (W W' : World) : Prop := ∀ b k x, R b → W.cell? ⟨b, k, none⟩ = some x → W'.cell? ⟨b, k, none⟩ = some x

theorem Keep.calm {F : Nat → Nat → Prop} {R : Nat → Prop} {W W' : World} (h : Keep F W W') (hr : ∀ b k, F b k → ¬ R b) : Calm R W W' :=
  fun b k _ hb hx => h.cell (fun hf => hr b k hf hb) hx

theorem IR.mono {R R' : Nat → Prop} {W W' : World} (hR : ∀ b, R b → R' b) (hW : Calm R W W') {u : AV} {x : Value} (h : IR R W u x) : IR R' W' u x := by
  induction h with
  | v x => exact .v x
  | nil sz get a cap => exact .nil sz get a cap
  | z a => exact .z a
  | i x hb hn hl hc hx hsc hs hm ih => exact .i x (hR _ hb) hn hl (fun k j u hk hu => hW _ _ _ hb (hc k j u hk hu)) (fun k j u hk hu => ih k j u hk hu) hsc hs hm
  | ip x hb hc hx ih => exact .ip x (hR _ hb) (fun k u hu => hW _ _ _ hb (hc k u hu)) (fun k u hu => ih k u hu)
  | a hl hx ih => exact .a hl ih
  | t hl hx ih => exact .t hl ih

theorem CR.mono {R R' : Nat → Prop} {W W' : World} (hR : ∀ b, R b → R' b) (hW : Calm R W W') {u : AV} {x : Value} (h : CR R W u x) : CR R' W' u x := ⟨h.1.mono hR hW, h.2⟩

/-- What hangs on one of these roots is forgotten. -/
def kill1 (bad : Nat → Bool) : AV → AV
  | .p l off => if bad l then .dead else .p l off
  | .q l sz i j => if bad l then .dead else .q l sz i j
  | .s l sz o n => if bad l then .dead else .s l sz o n
  | .y l => if bad l then .dead else .y l
  | .mp l => if bad l then .dead else .mp l
  | .v x => .v x
  | .i sz n get => .i sz n get
  | .ip cs j => .ip cs j
  | .z => .z
  | _ => .dead
def kill (bad : Nat → Bool) : AV → AV
  | .a cs => .a (cs.map (kill1 bad))
  | .t cs => .t (cs.map (kill1 bad))
  | .f fn us cs => .f fn (us.map (kill1 bad)) (cs.map (kill1 bad))
  | u => kill1 bad u

theorem VR.kill1 {R R' : Nat → Prop} {φ φ' : Phi} {W W' : World} {bad : Nat → Bool} (hR : ∀ b, R b → R' b) (hW : Calm R W W') (hr : ∀ b, room W b ≤ room W' b)
    (hφ : ∀ l, bad l = false → φ' l = φ l) {u : AV} {x : Value} (h : VR R φ W u x) : VR R' φ' W' (kill1 bad u) x := by
  cases h with
  | imm h =>
    have h' := h.mono hR hW
    cases h with
    | v _ => exact .imm h'
    | nil => exact .imm h'
    | z => exact .imm h'
    | i => exact .imm h'
    | ip => exact .imm h'
    | a => exact .dead _
    | t => exact .dead _
  | p h =>
    simp only [E.kill1]; split
    · exact .dead _
    · rename_i hb; exact .p (by rw [hφ _ (by simpa using hb)]; exact h)
  | q h =>
    simp only [E.kill1]; split
    · exact .dead _
    · rename_i hb; exact .q (by rw [hφ _ (by simpa using hb)]; exact h)
  | nil h =>
    simp only [E.kill1]; split
    · exact .dead _
    · rename_i hb; exact .nil (by rw [hφ _ (by simpa using hb)]; exact h)
  | z h =>
    simp only [E.kill1]; split
    · exact .dead _
    · rename_i hb; exact .z (by rw [hφ _ (by simpa using hb)]; exact h)
  | s h hn hr' =>
    simp only [E.kill1]; split
    · exact .dead _
    · rename_i hb; exact .s (by rw [hφ _ (by simpa using hb)]; exact h) hn (Nat.le_trans hr' (hr _))
  | y h =>
    simp only [E.kill1]; split
    · exact .dead _
    · rename_i hb; exact .y (by rw [hφ _ (by simpa using hb)]; exact h)
  | mp h =>
    simp only [E.kill1]; split
    · exact .dead _
    · rename_i hb; exact .mp (by rw [hφ _ (by simpa using hb)]; exact h)
  | a => exact .dead _
  | t => exact .dead _
  | f => exact .dead _
  | dead x => exact .dead x

theorem getElem?_map_some {α β : Type} {f : α → β} {l : List α} {k : Nat} {u : β} (h : (l.map f)[k]? = some u) : ∃ y, l[k]? = some y ∧ f y = u := by
  rw [List.getElem?_map] at h
  cases hk : l[k]? with
  | none => rw [hk] at h; cases h
  | some y => rw [hk] at h; exact ⟨y, rfl, Option.some.inj h⟩

theorem VR.kill {R R' : Nat → Prop} {φ φ' : Phi} {W W' : World} {bad : Nat → Bool} (hR : ∀ b, R b → R' b) (hW : Calm R W W') (hr : ∀ b, room W b ≤ room W' b)
    (hφ : ∀ l, bad l = false → φ' l = φ l) {u : AV} {x : Value} (h : VR R φ W u x) : VR R' φ' W' (kill bad u) x := by
  have one : ∀ {u : AV} {x : Value}, VR R φ W u x → VR R' φ' W' (E.kill1 bad u) x := fun h => VR.kill1 hR hW hr hφ h
  cases h with
  | imm h =>
    cases h with
    | v _ => exact one (.imm (.v _))
    | nil => exact one (.imm (.nil _ _ _ _))
    | z => exact one (.imm (.z _))
    | i x hb hn hl hc hx hsc hs hm => exact one (.imm (.i x hb hn hl hc hx hsc hs hm))
    | ip x hb hc hx => exact one (.imm (.ip x hb hc hx))
    | a hl hx =>
      refine .a (by simpa using hl) fun k u x hu hx' => ?_
      obtain ⟨y, hy, rfl⟩ := getElem?_map_some hu
      exact one (.imm (hx k y x hy hx'))
    | t hl hx =>
      refine .t (by simpa using hl) fun k u x hu hx' => ?_
      obtain ⟨y, hy, rfl⟩ := getElem?_map_some hu
      exact one (.imm (hx k y x hy hx'))
  | p h => exact one (.p h)
  | q h => exact one (.q h)
  | nil h => exact one (.nil h)
  | z h => exact one (.z h)
  | y h => exact one (.y h)
  | mp h => exact one (.mp h)
  | s h hn hr' => exact one (.s h hn hr')
  | a hl hx =>
    refine .a (by simpa using hl) fun k u x hu hx' => ?_
    obtain ⟨y, hy, rfl⟩ := getElem?_map_some hu
    exact one (hx k y x hy hx')
  | t hl hx =>
    refine .t (by simpa using hl) fun k u x hu hx' => ?_
    obtain ⟨y, hy, rfl⟩ := getElem?_map_some hu
    exact one (hx k y x hy hx')
  | f hl' hy' hl hx =>
    refine .f (by simpa using hl') (fun k u x hu hx' => ?_) (by simpa using hl) fun k u x hu hx' => ?_
    · obtain ⟨y, hy, rfl⟩ := getElem?_map_some hu
      exact one (hy' k y x hy hx')
    · obtain ⟨y, hy, rfl⟩ := getElem?_map_some hu
      exact one (hx k y x hy hx')
  | dead x => exact .dead x

/-- More roots are known, or others lie elsewhere that were not known. -/
def Ext (φ φ' : Phi) : Prop := ∀ l p, φ l = some p → φ' l = some p
theorem Ext.refl (φ : Phi) : Ext φ φ := fun _ _ h => h

/-- It lives on where roots are made. -/
theorem VR.mono {R R' : Nat → Prop} {φ φ' : Phi} {W W' : World} (hR : ∀ b, R b → R' b) (hW : Calm R W W') (hr : ∀ b, room W b ≤ room W' b) (hφ : Ext φ φ') {u : AV} {x : Value} (h : VR R φ W u x) : VR R' φ' W' u x := by
  induction h with
  | imm h => exact .imm (h.mono hR hW)
  | p h => exact .p (hφ _ _ h)
  | q h => exact .q (hφ _ _ h)
  | nil h => exact .nil (hφ _ _ h)
  | z h => exact .z (hφ _ _ h)
  | y h => exact .y (hφ _ _ h)
  | mp h => exact .mp (hφ _ _ h)
  | s h hn hr' => exact .s (hφ _ _ h) hn (Nat.le_trans hr' (hr _))
  | a hl hx ih => exact .a hl ih
  | t hl hx ih => exact .t hl ih
  | f hl' hx' hl hx ih' ih => exact .f hl' ih' hl ih
  | dead x => exact .dead x
theorem Old.to {R R' : Nat → Prop} {W W' : World} (h : Old R W) (hR : ∀ b, R b → R' b) (hW : Calm R W W') (hl : ∀ b, R' b → b < W'.heap.size) : Old R' W' := ⟨hl, fun p hp => (h.glob p hp).mono hR hW⟩
theorem Old.keep {R : Nat → Prop} {W W' : World} (h : Old R W) (hs : W.heap.size ≤ W'.heap.size) (hW : Calm R W W') : Old R W' := h.to (fun _ h => h) hW fun b hb => Nat.lt_of_lt_of_le (h.lt b hb) hs
end Go.Proofs.Ythdeehkmlaejfaa.E
/- The engine, part 2: the relation between an abstract state and a frame in a world, and how it lives on where a root is made or written. -/
namespace Go.Proofs.Ythdeehkmlaejfaa.E
open Go
set_option linter.unusedSimpArgs false
set_option linter.unusedVariables false

theorem own_ext {φ φ' : Phi} {l : Nat} {B : Blk} {b k : Nat} (h : φ' l = φ l) : own φ' l B b k ↔ own φ l B b k := by
  cases B <;> simp [own, h]

theorem Free.keep {F : Nat → Nat → Prop} {W W' : World} (h : Keep F W W') {b : Nat} (hf : Free W b) : Free W' b := by
  obtain ⟨c, T, e⟩ := hf
  obtain ⟨c', e', _⟩ := h.cells b c T _ e
  exact ⟨c', T, e'⟩

theorem Free.lt {W : World} {b : Nat} (h : Free W b) : b < W.heap.size := by
  obtain ⟨c, T, e⟩ := h
  exact (Array.getElem?_eq_some_iff.1 e).1

/-- A block that is not written lives on. -/
theorem BlkOk.kept' {R R' : Nat → Prop} {φ φ' : Phi} {F : Nat → Nat → Prop} {W W' : World} {l : Nat} {B : Blk} (h : BlkOk R φ W l B) (hk : Keep F W W') (hR : ∀ b, R b → R' b) (hc : Calm R W W')
    (ho : ∀ b k, own φ l B b k → ¬ F b k) (hφ : Ext φ φ') (hfr : φ l = none → φ' l = none) : BlkOk R' φ' W' l B := by
  cases B with
  | lit cs =>
    obtain ⟨b, o, e, f, g⟩ := h
    refine ⟨b, o, hφ _ _ e, f.keep hk, fun k u hu => ?_⟩
    obtain ⟨x, hx, hv⟩ := g k u hu
    have hlt : k < cs.length := by
      rcases Nat.lt_or_ge k cs.length with h1 | h1
      · exact h1
      · rw [List.getElem?_eq_none h1] at hu; cases hu
    exact ⟨x, hk.cell (ho b (o + k) ⟨o, e, by omega, by omega⟩) hx, hv.mono hR hc hk.room_le hφ⟩
  | tab sz n get =>
    obtain ⟨z, m, a, g⟩ := h
    refine ⟨z, m, a, ?_⟩
    rcases g with ⟨e, hn⟩ | ⟨b, o, e, f, g⟩
    · exact .inl ⟨hφ _ _ e, hn⟩
    · refine .inr ⟨b, o, hφ _ _ e, f.keep hk, fun k j u hkn hu => ?_⟩
      obtain ⟨x, hx, hv⟩ := g k j u hkn hu
      exact ⟨x, hk.cell (ho b _ ⟨o, e⟩) hx, hv.mono hR hc⟩
  | lrec e =>
    obtain ⟨b, r, h1, h2, h3, h4⟩ := h
    have hlt : b < W.heap.size := by
      rcases Nat.lt_or_ge b W.heap.size with h | h
      · exact h
      · rw [Array.getElem?_eq_none h] at h2; cases h2
    exact ⟨b, r, hφ _ _ h1, by rw [hk.obj b hlt fun k hf => ho b k h1 hf]; exact h2, h3, h4⟩
  | held =>
    obtain ⟨b, r, h1, h2⟩ := h
    obtain ⟨st, pe, h3⟩ := hk.loops b r h2
    exact ⟨b, _, hφ _ _ h1, h3⟩
  | gone => trivial
  | free => exact hfr h
  | tabv sz n get rs =>
    obtain ⟨z, m, a, g⟩ := h
    refine ⟨z, m, a, ?_⟩
    rcases g with ⟨e, hn⟩ | ⟨b, o, e, f, g⟩
    · exact .inl ⟨hφ _ _ e, hn⟩
    · refine .inr ⟨b, o, hφ _ _ e, f.keep hk, fun k j u hkn hu => ?_⟩
      obtain ⟨x, hx, hv, hs⟩ := g k j u hkn hu
      exact ⟨x, hk.cell (ho b _ ⟨o, e⟩) hx, hv.mono hR hc hk.room_le hφ, hs⟩
  | map es c =>
    obtain ⟨b, h1, h2⟩ := h
    exact ⟨b, hφ _ _ h1, by rw [hk.obj b (Array.getElem?_eq_some_iff.1 h2).1 fun k hf => ho b k h1 hf]; exact h2⟩
  | iter m s seen st =>
    obtain ⟨b, bm, h1, h3, h2⟩ := h
    exact ⟨b, bm, hφ _ _ h1, hφ _ _ h3, by rw [hk.obj b (Array.getElem?_eq_some_iff.1 h2).1 fun k hf => ho b k h1 hf]; exact h2⟩

theorem BlkOk.kept {R R' : Nat → Prop} {φ φ' : Phi} {F : Nat → Nat → Prop} {W W' : World} {l : Nat} {B : Blk} (h : BlkOk R φ W l B) (hk : Keep F W W') (hR : ∀ b, R b → R' b) (hF : ∀ b k, F b k → ¬ R b)
    (ho : ∀ b k, own φ l B b k → ¬ F b k) (hφ : Ext φ φ') (hfr : φ l = none → φ' l = none) : BlkOk R' φ' W' l B := h.kept' hk hR (hk.calm hF) ho hφ hfr

theorem BlkOk.owned {R : Nat → Prop} {φ : Phi} {W : World} {l : Nat} {B : Blk} (h : BlkOk R φ W l B) {b k : Nat} (hw : own φ l B b k) : b < W.heap.size := by
  cases B with
  | lit cs => obtain ⟨o, e1, _⟩ := hw; obtain ⟨b', o', e2, fr, _⟩ := h; rw [e1] at e2; obtain ⟨rfl, rfl⟩ := Prod.mk.inj (Option.some.inj (Option.some.inj e2)); exact fr.lt
  | tab sz n get =>
    obtain ⟨o, e1⟩ := hw
    obtain ⟨_, _, _, hb⟩ := h
    rcases hb with ⟨e2, _⟩ | ⟨b', o', e2, fr, _⟩
    · rw [e1] at e2; cases e2
    · rw [e1] at e2; obtain ⟨rfl, rfl⟩ := Prod.mk.inj (Option.some.inj (Option.some.inj e2)); exact fr.lt
  | lrec e =>
    obtain ⟨b', r, h1, h2, _⟩ := h
    have e1 : φ l = some (some (b, 0)) := hw
    rw [h1] at e1
    obtain ⟨rfl, _⟩ := Prod.mk.inj (Option.some.inj (Option.some.inj e1))
    rcases Nat.lt_or_ge b' W.heap.size with h | h
    · exact h
    · rw [Array.getElem?_eq_none h] at h2; cases h2
  | held =>
    obtain ⟨b', r, h1, h2⟩ := h
    have e1 : φ l = some (some (b, 0)) := hw
    rw [h1] at e1
    obtain ⟨rfl, _⟩ := Prod.mk.inj (Option.some.inj (Option.some.inj e1))
    rcases Nat.lt_or_ge b' W.heap.size with h | h
    · exact h
    · rw [Array.getElem?_eq_none h] at h2; cases h2
  | gone => exact hw.elim
  | free => exact hw.elim
  | tabv sz n get rs =>
    obtain ⟨o, e1⟩ := hw
    obtain ⟨_, _, _, hb⟩ := h
    rcases hb with ⟨e2, _⟩ | ⟨b', o', e2, fr, _⟩
    · rw [e1] at e2; cases e2
    · rw [e1] at e2; obtain ⟨rfl, rfl⟩ := Prod.mk.inj (Option.some.inj (Option.some.inj e2)); exact fr.lt
  | map es c =>
    obtain ⟨b', h1, h2⟩ := h
    have e1 : φ l = some (some (b, 0)) := hw
    rw [h1] at e1
    obtain ⟨rfl, _⟩ := Prod.mk.inj (Option.some.inj (Option.some.inj e1))
    exact (Array.getElem?_eq_some_iff.1 h2).1
  | iter m s seen st =>
    obtain ⟨b', bm, h1, _, h2⟩ := h
    have e1 : φ l = some (some (b, 0)) := hw
    rw [h1] at e1
    obtain ⟨rfl, _⟩ := Prod.mk.inj (Option.some.inj (Option.some.inj e1))
    exact (Array.getElem?_eq_some_iff.1 h2).1

theorem BlkOk.known {R : Nat → Prop} {φ : Phi} {W : World} {l : Nat} {B : Blk} (h : BlkOk R φ W l B) : B = .gone ∨ B = .free ∨ ∃ p, φ l = some p := by
  cases B with
  | lit cs => obtain ⟨b, o, e, _⟩ := h; exact .inr (.inr ⟨_, e⟩)
  | tab sz n get => obtain ⟨_, _, _, hb⟩ := h; rcases hb with ⟨e, _⟩ | ⟨b, o, e, _⟩ <;> exact .inr (.inr ⟨_, e⟩)
  | lrec e => obtain ⟨b, r, e, _⟩ := h; exact .inr (.inr ⟨_, e⟩)
  | held => obtain ⟨b, r, e, _⟩ := h; exact .inr (.inr ⟨_, e⟩)
  | gone => exact .inl rfl
  | free => exact .inr (.inl rfl)
  | tabv sz n get rs => obtain ⟨_, _, _, hb⟩ := h; rcases hb with ⟨e, _⟩ | ⟨b, o, e, _⟩ <;> exact .inr (.inr ⟨_, e⟩)
  | map es c => obtain ⟨b, e, _⟩ := h; exact .inr (.inr ⟨_, e⟩)
  | iter m s seen st => obtain ⟨b, bm, e, _⟩ := h; exact .inr (.inr ⟨_, e⟩)

/-- An abstract state, a frame, a world. F0: the cells that belonged to the roots at the beginning, in the world W0. -/
structure Rel (F0 : Nat → Nat → Prop) (W0 : World) (R : Nat → Prop) (φ : Phi) (σ : St) (f : List AV) (tmps : Array Value) (W : World) : Prop where
  sim : Sim R φ σ W
  fr : ∀ (t : Nat) (u : AV), f[t]? = some u → VR R φ W u (tmps.getD t undef)
  reg : ∀ (l : Nat) (B : Blk), σ[l]? = some B → ∀ b k, own φ l B b k → F0 b k ∨ W0.heap.size ≤ b
  keep : Keep F0 W0 W
  len : f.length = tmps.size

/-- A root is made, or written, or takes over what another one had: the root l has the block B' from now on. What is written, and what it takes over, was src's. -/
theorem Rel.turn {F0 : Nat → Nat → Prop} {W0 : World} {R : Nat → Prop} {φ φ' : Phi} {σ : St} {f : List AV} {tmps : Array Value} {W W' : World} (h : Rel F0 W0 R φ σ f tmps W)
    {l src : Nat} {B' : Blk} {G : Nat → Nat → Prop} (hk : Keep G W W') (hφ : Ext φ φ') (hφ0 : ∀ m, m ≠ l → φ m = none → φ' m = none)
    (hG : ∀ b k, G b k → ∃ B, σ[src]? = some B ∧ own φ src B b k)
    (hB : BlkOk R φ' W' l B') (ho : ∀ b k, own φ' l B' b k → (∃ B, σ[src]? = some B ∧ own φ src B b k) ∨ W.heap.size ≤ b)
    {σ' : St} (hσ : ∀ m B, σ'[m]? = some B → (m = l ∧ B = B') ∨ B = .gone ∨ (m ≠ src ∧ m ≠ l ∧ σ[m]? = some B)) (hdom : ∀ m, σ'.length ≤ m → φ' m = none) : Rel F0 W0 R φ' σ' f tmps W' := by
  have hGR : ∀ b k, G b k → ¬ R b := fun b k hg => by
    obtain ⟨B, e, hw⟩ := hG b k hg
    exact h.sim.ro src B e b k hw
  have hGne : ∀ m B, σ[m]? = some B → m ≠ src → ∀ b k, own φ m B b k → ¬ G b k := fun m B e hm b k hw hg => by
    obtain ⟨B1, e1, hw1⟩ := hG b k hg
    exact h.sim.sep m src B B1 hm e e1 b k k hw hw1
  -- what an old root owns, it owned
  have hold : ∀ m B, σ[m]? = some B → ∀ b k, own φ' m B b k → own φ m B b k := fun m B e b k hw => by
    rcases (h.sim.blk m B e).known with rfl | rfl | ⟨p, hp⟩
    · exact hw.elim
    · exact hw.elim
    · exact (own_ext ((hφ _ _ hp).trans hp.symm)).1 hw
  refine ⟨⟨?_, ?_, ?_, ?_, hdom⟩, ?_, ?_, ?_, h.len⟩
  · intro m B e
    rcases hσ m B e with ⟨rfl, rfl⟩ | rfl | ⟨hm, hml, e0⟩
    · exact hB
    · trivial
    · exact (h.sim.blk m B e0).kept hk (fun _ hb => hb) hGR (hGne m B e0 hm) hφ (hφ0 m hml)
  · intro m m' B1 B2 hne e1 e2 b k k' w1 w2
    rcases hσ m B1 e1 with ⟨rfl, rfl⟩ | rfl | ⟨hm, hm2, e3⟩
    · rcases hσ m' B2 e2 with ⟨rfl, rfl⟩ | rfl | ⟨hm', hm2', e4⟩
      · exact hne rfl
      · exact w2.elim
      · have w4 := hold m' B2 e4 b k' w2
        rcases ho b k w1 with ⟨B5, e5, w5⟩ | hle
        · exact h.sim.sep src m' B5 B2 (Ne.symm hm') e5 e4 b k k' w5 w4
        · have := (h.sim.blk m' B2 e4).owned w4; omega
    · exact w1.elim
    · have w3 := hold m B1 e3 b k w1
      rcases hσ m' B2 e2 with ⟨rfl, rfl⟩ | rfl | ⟨hm', hm2', e4⟩
      · rcases ho b k' w2 with ⟨B5, e5, w5⟩ | hle
        · exact h.sim.sep m src B1 B5 hm e3 e5 b k k' w3 w5
        · have := (h.sim.blk m B1 e3).owned w3; omega
      · exact w2.elim
      · exact h.sim.sep m m' B1 B2 hne e3 e4 b k k' w3 (hold m' B2 e4 b k' w2)
  · intro m B e b k w hR
    rcases hσ m B e with ⟨rfl, rfl⟩ | rfl | ⟨hm, hm2, e3⟩
    · rcases ho b k w with ⟨B4, e4, w4⟩ | hle
      · exact h.sim.ro src B4 e4 b k w4 hR
      · have := h.sim.old b hR; omega
    · exact w.elim
    · exact h.sim.ro m B e3 b k (hold m B e3 b k w) hR
  · exact h.sim.old.keep hk.size (hk.calm hGR)
  · intro t u hu
    exact (h.fr t u hu).mono (fun _ hb => hb) (hk.calm hGR) hk.room_le hφ
  · intro m B e b k w
    rcases hσ m B e with ⟨rfl, rfl⟩ | rfl | ⟨hm, hm2, e3⟩
    · rcases ho b k w with ⟨B4, e4, w4⟩ | hle
      · exact h.reg src B4 e4 b k w4
      · exact .inr (Nat.le_trans h.keep.size hle)
    · exact w.elim
    · exact h.reg m B e3 b k (hold m B e3 b k w)
  · exact h.keep.trans hk fun b k hg => by
      obtain ⟨B, e, hw⟩ := hG b k hg
      exact h.reg src B e b k hw

/-- A slot is written. -/
theorem Rel.put {F0 : Nat → Nat → Prop} {W0 : World} {R : Nat → Prop} {φ : Phi} {σ : St} {f : List AV} {tmps : Array Value} {W : World} (h : Rel F0 W0 R φ σ f tmps W)
    {u : AV} {x : Value} (hv : VR R φ W u x) (d : Nat) : Rel F0 W0 R φ σ (f.set d u) (tmps.setIfInBounds d x) W :=
  ⟨h.sim, fun t w hw => by
    by_cases ht : t = d
    · subst ht
      have hlt : t < f.length := by
        rcases Nat.lt_or_ge t f.length with h1 | h1
        · exact h1
        · rw [List.getElem?_eq_none (by simpa using h1)] at hw; cases hw
      have h2 := h.len
      rw [List.getElem?_set_self hlt] at hw
      obtain rfl := Option.some.inj hw
      have : (tmps.setIfInBounds t x).getD t undef = x := by simp [Array.getD, h2 ▸ hlt]
      rw [this]; exact hv
    · rw [List.getElem?_set_ne (Ne.symm ht)] at hw
      have : (tmps.setIfInBounds d x).getD t undef = tmps.getD t undef := by
        simp only [Array.getD_eq_getD_getElem?]
        rw [Array.getElem?_setIfInBounds_ne (Ne.symm ht)]
      rw [this]; exact h.fr t w hw, h.reg, h.keep, by simpa using h.len⟩
end Go.Proofs.Ythdeehkmlaejfaa.E
/- The engine, part 3: types, operands, reading of memory. -/
namespace Go.Proofs.Ythdeehkmlaejfaa.E
open Go
set_option linter.unusedSimpArgs false
set_option linter.unusedVariables false

/-- A type's form, as far as the engine goes by it; a struct's fields by type and offset. -/
inductive TD where
  | bool
  | int (k : IntKind)
  | string
  | struct (flds : List (Nat × Nat))
  | array (n elem : Nat)
  | slice (elem : Nat)
  | pointer (elem : Nat)
  | map (key elem : Nat)
  | func

def TD.is (P : Program) (t : Nat) : TD → Prop
  | .bool => P.underlying t = some .bool
  | .int k => P.underlying t = some (.int k)
  | .string => P.underlying t = some .string
  | .struct flds => ∃ fs : Array Field, P.underlying t = some (.struct fs) ∧ (fs.toList.map fun f => (f.type, f.offset)) = flds ∧ (fs.toList.all fun f => f.name != "_") = true ∧ P.stoodInHeld t = false ∧ P.eqGuardType P.depth t = false
  | .array n e => P.underlying t = some (.array n e)
  | .slice e => P.underlying t = some (.slice e)
  | .pointer e => P.underlying t = some (.pointer e)
  | .map k e => P.underlying t = some (.map k e)
  | .func => ∃ a b c, P.underlying t = some (.func a b c)

/-- What the engine goes by of a type. -/
structure TE where
  t : Nat
  td : TD
  size : Nat
  bytes : Nat
  zero : List Value
  few : Bool

def isAggD : TD → Bool
  | .struct _ => true
  | .array _ _ => true
  | _ => false

def TE.ok (P : Program) (e : TE) : Prop :=
  e.td.is P e.t ∧ ∃ i z, P.info? e.t = some i ∧ i.size = e.size ∧ i.bytes = e.bytes ∧ i.zero = some z ∧ z.cells.toList = e.zero ∧ scal z = !isAggD e.td
def TTok (P : Program) (tt : List TE) : Prop := ∀ e ∈ tt, e.ok P

def look (tt : List TE) (t : Nat) : Option TE := tt.find? fun e => Nat.beq e.t t

theorem look_ok {P : Program} {tt : List TE} (h : TTok P tt) {t : Nat} {e : TE} (he : look tt t = some e) :
    e.td.is P t ∧ ∃ i z, P.info? t = some i ∧ i.size = e.size ∧ i.bytes = e.bytes ∧ i.zero = some z ∧ z.cells.toList = e.zero := by
  have h1 := List.mem_of_find?_eq_some he
  have h2 := List.find?_some he
  have h2 := Nat.eq_of_beq_eq_true h2
  rw [← h2]
  obtain ⟨a, i, z, b, c, d, f, g, _⟩ := h e h1
  exact ⟨a, i, z, b, c, d, f, g⟩
/-- The zero value of a type whose values take one cell. -/
theorem look_zero {P : Program} {tt : List TE} (h : TTok P tt) {t : Nat} {e : TE} (he : look tt t = some e) {z0 : Value} (ha : isAggD e.td = false) (hz : e.zero = [z0]) (W : World) : (zeroValue t).run P W = .ok z0 W ∧ scal z0 = true := by
  have h1 := List.mem_of_find?_eq_some he
  have h2 := List.find?_some he
  have h2 := Nat.eq_of_beq_eq_true h2
  obtain ⟨a, i, z, b, c, d, f, g, s⟩ := h e h1
  rw [ha] at s
  have s : scal z = true := s
  rw [hz] at g
  have e1 : z = z0 := by
    cases z <;> first | (simp [Value.cells] at g; exact g) | cases s
  subst e1
  refine ⟨?_, s⟩
  rw [← h2]
  unfold zeroValue
  simp [typeInfo, b, f, go_sem]

theorem run_und {P : Program} {t : Nat} {d : TypeDesc} (h : P.underlying t = some d) (W : World) : (underlying t).run P W = .ok d W := by
  simp [underlying, h, go_sem]

section
variable {P : Program} {tt : List TE} (h : TTok P tt) {t : Nat} {e : TE} (he : look tt t = some e) (W : World)
include h he
theorem run_typeInfo : ∃ i z, (typeInfo t).run P W = .ok i W ∧ i.size = e.size ∧ i.bytes = e.bytes ∧ i.zero = some z ∧ z.cells.toList = e.zero := by
  obtain ⟨_, i, z, h1, h2⟩ := look_ok h he
  exact ⟨i, z, by simp [typeInfo, h1, go_sem], h2⟩
theorem run_sizeOf : (sizeOf t).run P W = .ok e.size W := by
  obtain ⟨i, z, h1, h2, _⟩ := run_typeInfo h he W
  unfold sizeOf
  simp [h1, h2, go_sem]
theorem run_zeroValue : ∃ z, (zeroValue t).run P W = .ok z W ∧ z.cells.toList = e.zero := by
  obtain ⟨i, z, h1, h2, h3, h4, h5⟩ := run_typeInfo h he W
  exact ⟨z, by unfold zeroValue; simp [h1, h4, go_sem], h5⟩
theorem run_isAgg : (isAgg t).run P W = .ok (isAggD e.td) W := by
  have := (look_ok h he).1
  unfold isAgg
  simp only [Sem.run_bind]
  cases htd : e.td <;> simp only [htd, TD.is] at this
  case struct => obtain ⟨fs, h1, _⟩ := this; rw [run_und h1]; rfl
  case func => obtain ⟨a, b, c, h1⟩ := this; rw [run_und h1]; rfl
  all_goals (rw [run_und this]; rfl)
end
end Go.Proofs.Ythdeehkmlaejfaa.E
/- The engine, part 4: operands, loads. -/
namespace Go.Proofs.Ythdeehkmlaejfaa.E
open Go
set_option linter.unusedSimpArgs false
set_option linter.unusedVariables false

/-- A constant. -/
def cv : Value → AV
  | .agg cs => .a (cs.toList.map .v)
  | x => .v x

theorem cv_ok {R : Nat → Prop} {φ : Phi} {W : World} (x : Value) : VR R φ W (cv x) x := by
  cases x with
  | agg cs =>
    have := VR.a (R := R) (φ := φ) (W := W) (cells := cs.toList.map .v) (vs := cs.toList) (by simp) fun k u x hu hx => by
      obtain ⟨y, hy, rfl⟩ := getElem?_map_some hu
      rw [hy] at hx
      obtain rfl := Option.some.inj hx
      exact .imm (.v _)
    simpa [cv] using this
  | _ => exact .imm (.v _)

def ev (f : List AV) : Operand → AV
  | .tmp t => f.getD t .dead
  | .const x => cv x
  | .func g => .f (.func g) [] []
  | .global g => match globs.find? fun p => Nat.beq p.1 g with
    | some p => .ip p.2 0
    | none => .dead

theorem ev_ok {F0 : Nat → Nat → Prop} {W0 : World} {R : Nat → Prop} {φ : Phi} {σ : St} {f : List AV} {tmps : Array Value} {W : World} (h : Rel F0 W0 R φ σ f tmps W) (ds : List Deferred) (x : Operand) :
    VR R φ W (ev f x) ((Act.mk tmps ds).eval x) := by
  cases x with
  | tmp t =>
    simp only [ev, Act.eval]
    rw [List.getD_eq_getElem?_getD]
    cases hk : f[t]? with
    | none => exact .dead _
    | some u => exact h.fr t u hk
  | const x => exact cv_ok x
  | global g =>
    simp only [ev, Act.eval]
    split
    · rename_i p hp
      have h0 := List.find?_some hp
      have h1 : p.1 = g := Nat.eq_of_beq_eq_true h0
      have h2 := h.sim.old.glob p (List.mem_of_find?_eq_some hp)
      rw [h1] at h2
      exact .imm h2
    · exact .dead _
  | func g => exact VR.f (us := []) (vs := []) rfl (fun k u x hu => by simp at hu) rfl (fun k u x hu => by simp at hu)

/-- The cells from a place on. -/
theorem run_loadCellsFrom {P : Program} {W : World} {b o : Nat} (n : Nat) : ∀ (i : Nat) (xs : List Value) (acc : Array Value), xs.length = n → (∀ (k : Nat) (x : Value), xs[k]? = some x → W.cell? ⟨b, o + (i + k), none⟩ = some x) →
    (loadCellsFrom ⟨b, o, none⟩ i n acc).run P W = .ok (acc ++ xs.toArray) W := by
  induction n with
  | zero =>
    intro i xs acc hl hx
    obtain rfl := List.length_eq_zero_iff.1 hl
    simp [loadCellsFrom]
  | succ n ih =>
    intro i xs acc hl hx
    cases xs with
    | nil => simp at hl
    | cons x xs =>
      have h0 := hx 0 x rfl
      simp only [loadCellsFrom, Sem.run_bind]
      have ha : (Addr.add ⟨b, o, none⟩ i) = ⟨b, o + i, none⟩ := by unfold Addr.add; split <;> simp_all
      rw [ha]
      have hl0 : (load ⟨b, o + i, none⟩).run P W = .ok x W := by
        simp only [load, Sem.run]
        rw [show W.cell? ⟨b, o + i, none⟩ = some x from h0]
      rw [hl0]
      simp only [Result.andThen]
      rw [ih (i + 1) xs (acc.push x) (by simpa using hl) fun k y hy => by
        have := hx (k + 1) y (by simpa using hy)
        rw [show i + 1 + k = i + (k + 1) by omega]; exact this]
      simp
theorem run_loadCells {P : Program} {W : World} {b o : Nat} {xs : List Value} (hx : ∀ (k : Nat) (x : Value), xs[k]? = some x → W.cell? ⟨b, o + k, none⟩ = some x) :
    (loadCells ⟨b, o, none⟩ xs.length).run P W = .ok xs.toArray W := by
  unfold loadCells
  rw [run_loadCellsFrom xs.length 0 xs #[] rfl fun k x h => by rw [Nat.zero_add]; exact hx k x h]
  simp

/-- Cells of memory that read as abstract cells have values. -/
theorem cells_values {V : AV → Value → Prop} {W : World} {b o : Nat} (cs : List AV) (h : ∀ (k : Nat) (u : AV), cs[k]? = some u → ∃ x, W.cell? ⟨b, o + k, none⟩ = some x ∧ V u x) :
    ∃ xs : List Value, xs.length = cs.length ∧ (∀ (k : Nat) (x : Value), xs[k]? = some x → W.cell? ⟨b, o + k, none⟩ = some x) ∧ ∀ (k : Nat) (u : AV) (x : Value), cs[k]? = some u → xs[k]? = some x → V u x := by
  induction cs generalizing o with
  | nil => exact ⟨[], rfl, fun k x hx => by simp at hx, fun k u x hu => by simp at hu⟩
  | cons u cs ih =>
    obtain ⟨x, hx, hv⟩ := h 0 u rfl
    obtain ⟨xs, h1, h2, h3⟩ := ih (o := o + 1) fun k w hw => by
      obtain ⟨y, hy, hy'⟩ := h (k + 1) w (by simpa using hw)
      exact ⟨y, by rw [show o + 1 + k = o + (k + 1) by omega]; exact hy, hy'⟩
    refine ⟨x :: xs, by simp [h1], fun k y hy => ?_, fun k w y hw hy => ?_⟩
    · cases k with
      | zero => simp at hy; subst hy; exact hx
      | succ k => have := h2 k y (by simpa using hy); rw [show o + (k + 1) = o + 1 + k by omega]; exact this
    · cases k with
      | zero => simp at hw hy; subst hw hy; exact hv
      | succ k => exact h3 k w y (by simpa using hw) (by simpa using hy)

/-- Reading a variable out of cells that are known. -/
theorem run_loadVar {P : Program} {tt : List TE} (h : TTok P tt) {t : Nat} {e : TE} (he : look tt t = some e) {W : World} {V : AV → Value → Prop} {b o : Nat} {cs : List AV} (hl : cs.length = e.size) (ha : isAggD e.td = true)
    (hc : ∀ (k : Nat) (u : AV), cs[k]? = some u → ∃ x, W.cell? ⟨b, o + k, none⟩ = some x ∧ V u x) :
    ∃ xs : List Value, cs.length = xs.length ∧ (loadVar t ⟨b, o, none⟩).run P W = .ok (.agg xs.toArray) W ∧ ∀ (k : Nat) (u : AV) (x : Value), cs[k]? = some u → xs[k]? = some x → V u x := by
  obtain ⟨xs, h1, h2, h3⟩ := cells_values cs hc
  refine ⟨xs, h1.symm, ?_, h3⟩
  unfold loadVar
  simp only [Sem.run_bind, run_isAgg h he, ha, Result.andThen, if_true, run_sizeOf h he]
  rw [← hl, ← h1, run_loadCells h2]
  simp
theorem run_loadVar1 {P : Program} {tt : List TE} (h : TTok P tt) {t : Nat} {e : TE} (he : look tt t = some e) {W : World} {b o : Nat} {x : Value} (ha : isAggD e.td = false) (hc : W.cell? ⟨b, o, none⟩ = some x) :
    (loadVar t ⟨b, o, none⟩).run P W = .ok x W := by
  unfold loadVar
  simp only [Sem.run_bind, run_isAgg h he, ha, Result.andThen, load, Sem.run, hc]
  simp [Sem.run, load, hc]

/-- What is told of a load: a condition, and the value. -/
def ldCells (e : TE) (cs : List AV) (off : Nat) : Option AV :=
  match isAggD e.td with
  | true => match Nat.ble (off + e.size) cs.length with
    | true => some (.a ((cs.drop off).take e.size))
    | false => none
  | false => cs[off]?
def aLoad (tt : List TE) (t : Nat) (x : AV) (σ : St) : Option (Bool × AV) :=
  match look tt t with
  | none => none
  | some e =>
    match x with
    | .p l off =>
      match σ[l]? with
      | some (.lit cs) => (ldCells e cs off).map fun u => (true, u)
      | some (.tab sz n get) =>
        match isAggD e.td, Nat.beq off 0, Nat.beq e.size (n * sz) with
        | true, true, true => some (true, .a ((List.range n).flatMap get))
        | _, _, _ => none
      | _ => none
    | .q l sz i j =>
      match σ[l]? with
      | some (.tab sz' n get) => match Nat.beq sz sz' with
        | true => (ldCells e (get i) j).map fun u => (decide (i < n), u)
        | false => none
      | some (.lit cs) => (ldCells e cs (i * sz + j)).map fun u => (true, u)
      | some (.tabv sz' n get _) => match Nat.beq sz sz' with
        | true => (ldCells e (get i) j).map fun u => (decide (i < n), u)
        | false => none
      | _ => none
    | .ip cs j => (ldCells e cs j).map fun u => (true, u)
    | _ => none

theorem ldCells_ok {P : Program} {tt : List TE} (h : TTok P tt) {t : Nat} {e : TE} (he : look tt t = some e) {R : Nat → Prop} {φ : Phi} {W : World} {V : AV → Value → Prop} (hV : ∀ u x, V u x → VR R φ W u x) {b o : Nat} {cs : List AV} {off : Nat} {u : AV}
    (hu : ldCells e cs off = some u) (hc : ∀ (k : Nat) (u : AV), cs[k]? = some u → ∃ x, W.cell? ⟨b, o + k, none⟩ = some x ∧ V u x) :
    ∃ x, (loadVar t ⟨b, o + off, none⟩).run P W = .ok x W ∧ VR R φ W u x := by
  unfold ldCells at hu
  cases ha : isAggD e.td with
  | true =>
    simp only [ha] at hu
    cases hb : Nat.ble (off + e.size) cs.length with
    | false => simp [hb] at hu
    | true =>
      simp only [hb] at hu
      obtain rfl := Option.some.inj hu
      have hle : off + e.size ≤ cs.length := Nat.le_of_ble_eq_true hb
      obtain ⟨xs, h1, h2, h3⟩ := run_loadVar h he (W := W) (V := V) (b := b) (o := o + off) (cs := (cs.drop off).take e.size) (by simp; omega) ha fun k w hw => by
        rw [List.getElem?_take] at hw
        split at hw
        · rw [List.getElem?_drop] at hw
          obtain ⟨x, hx, hv⟩ := hc (off + k) w hw
          exact ⟨x, by rw [show o + off + k = o + (off + k) by omega]; exact hx, hv⟩
        · cases hw
      exact ⟨_, h2, .a h1 fun k w x hw hx => hV _ _ (h3 k w x hw hx)⟩
  | false =>
    simp only [ha] at hu
    obtain ⟨x, hx, hv⟩ := hc off u hu
    exact ⟨x, run_loadVar1 h he ha hx, hV _ _ hv⟩

theorem flat_get (sz : Nat) (get : Nat → List AV) : ∀ (n : Nat), (∀ k, k < n → (get k).length = sz) → ((List.range n).flatMap get).length = n * sz ∧ ∀ (m : Nat) (u : AV), ((List.range n).flatMap get)[m]? = some u → ∃ k j, k < n ∧ m = k * sz + j ∧ (get k)[j]? = some u := by
  intro n
  induction n with
  | zero => intro _; exact ⟨by simp, fun m u hu => by simp at hu⟩
  | succ n ih =>
    intro hl
    obtain ⟨h1, h2⟩ := ih fun k hk => hl k (by omega)
    rw [List.range_succ, List.flatMap_append]
    refine ⟨by simp [h1, hl n (by omega), Nat.succ_mul], fun m u hu => ?_⟩
    rw [List.getElem?_append] at hu
    split at hu
    · obtain ⟨k, j, hk, hm, hg⟩ := h2 m u hu
      exact ⟨k, j, by omega, hm, hg⟩
    · rename_i hge
      simp only [List.flatMap_cons, List.flatMap_nil, List.append_nil] at hu
      rw [h1] at hu hge
      exact ⟨n, m - n * sz, by omega, by omega, hu⟩

theorem aLoad_ok {P : Program} {tt : List TE} (h : TTok P tt) {t : Nat} {R : Nat → Prop} {φ : Phi} {σ : St} {W : World} (hs : Sim R φ σ W) {x : AV} {v : Value} (hx : VR R φ W x v) {c : Bool} {u : AV}
    (ha : aLoad tt t x σ = some (c, u)) (hc : c = true) : ∃ y, (Instr.loadAt t v).run P W = .ok y W ∧ VR R φ W u y := by
  unfold aLoad at ha
  cases he : look tt t with
  | none => simp [he] at ha
  | some e =>
    simp only [he] at ha
    cases x with
    | p l off =>
      simp only at ha
      cases hl : σ[l]? with
      | none => simp [hl] at ha
      | some B =>
        have hb := hs.blk l B hl
        simp only [hl] at ha
        cases hx with
        | imm hi => cases hi
        | p hφ =>
          rename_i b o
          cases B with
          | lit cs =>
            simp only [Option.map_eq_some_iff] at ha
            obtain ⟨u', hu', hh⟩ := ha
            obtain ⟨rfl, rfl⟩ := Prod.mk.inj hh
            obtain ⟨b', o', e2, _, hcell⟩ := hb
            rw [hφ] at e2; obtain ⟨rfl, rfl⟩ := Prod.mk.inj (Option.some.inj (Option.some.inj e2))
            obtain ⟨y, h1, h2⟩ := ldCells_ok h he (V := VR R φ W) (fun _ _ h => h) hu' hcell
            exact ⟨y, by simp only [Instr.loadAt, Instr.sureAddr, Sem.run_bind, Sem.run_pure, Result.andThen]; exact h1, h2⟩
          | tab sz n get =>
            simp only at ha
            split at ha
            · rename_i h1 h2 h3
              obtain ⟨rfl, rfl⟩ := Prod.mk.inj (Option.some.inj ha)
              obtain rfl := Nat.eq_of_beq_eq_true h2
              have h3 := Nat.eq_of_beq_eq_true h3
              obtain ⟨hz, hm, hlen, hb⟩ := hb
              rcases hb with ⟨e2, _⟩ | ⟨b', o', e2, _, hcell⟩
              · rw [hφ] at e2; cases e2
              · rw [hφ] at e2; obtain ⟨rfl, rfl⟩ := Prod.mk.inj (Option.some.inj (Option.some.inj e2))
                obtain ⟨f1, f2⟩ := flat_get sz get n hlen
                obtain ⟨xs, g1, g2, g3⟩ := run_loadVar h he (W := W) (V := VR R φ W) (b := b) (o := o + 0) (cs := (List.range n).flatMap get) (by rw [f1, h3]) h1 fun m w hw => by
                  obtain ⟨k, j, hk, rfl, hg⟩ := f2 m w hw
                  obtain ⟨x, hx, hv⟩ := hcell k j w hk hg
                  exact ⟨x, hx, .imm hv.1⟩
                exact ⟨_, by simp only [Instr.loadAt, Instr.sureAddr, Sem.run_bind, Sem.run_pure, Result.andThen]; exact g2, .a g1 g3⟩
            · cases ha
          | gone => simp at ha
          | free => simp at ha
          | lrec e => simp at ha
          | held => simp at ha
          | tabv sz n get => simp at ha
          | map es c => simp at ha
          | iter m s seen st => simp at ha
    | q l sz i j =>
      simp only at ha
      cases hl : σ[l]? with
      | none => simp [hl] at ha
      | some B =>
        have hb := hs.blk l B hl
        simp only [hl] at ha
        cases hx with
        | imm hi => cases hi
        | q hφ =>
          rename_i b o
          cases B with
          | tab sz' n get =>
            simp only at ha
            cases hz : Nat.beq sz sz' with
            | false => simp [hz] at ha
            | true =>
              obtain rfl := Nat.eq_of_beq_eq_true hz
              simp only [hz, Option.map_eq_some_iff] at ha
              obtain ⟨u', hu', hh⟩ := ha
              obtain ⟨rfl, rfl⟩ := Prod.mk.inj hh
              have hi : i < n := by simpa using hc
              obtain ⟨_, _, hlen, hb⟩ := hb
              rcases hb with ⟨e2, _⟩ | ⟨b', o', e2, _, hcell⟩
              · rw [hφ] at e2; cases e2
              · rw [hφ] at e2; obtain ⟨rfl, rfl⟩ := Prod.mk.inj (Option.some.inj (Option.some.inj e2))
                obtain ⟨y, h1, h2⟩ := ldCells_ok h he (V := CR R W) (φ := φ) (fun _ _ h => .imm h.1) (b := b) (o := o + i * sz) hu' fun k w hw => by
                  obtain ⟨x, hx, hv⟩ := hcell i k w hi hw
                  exact ⟨x, by rw [show o + i * sz + k = o + (i * sz + k) by omega]; exact hx, hv⟩
                refine ⟨y, ?_, h2⟩
                simp only [Instr.loadAt, Instr.sureAddr, Sem.run_bind, Sem.run_pure, Result.andThen]
                rw [show o + (i * sz + j) = o + i * sz + j by omega]; exact h1
          | lit cs =>
            simp only [Option.map_eq_some_iff] at ha
            obtain ⟨u', hu', hh⟩ := ha
            obtain ⟨rfl, rfl⟩ := Prod.mk.inj hh
            obtain ⟨b', o', e2, _, hcell⟩ := hb
            rw [hφ] at e2; obtain ⟨rfl, rfl⟩ := Prod.mk.inj (Option.some.inj (Option.some.inj e2))
            obtain ⟨y, h1, h2⟩ := ldCells_ok h he (V := VR R φ W) (fun _ _ h => h) hu' hcell
            exact ⟨y, by simp only [Instr.loadAt, Instr.sureAddr, Sem.run_bind, Sem.run_pure, Result.andThen]; exact h1, h2⟩
          | gone => simp at ha
          | free => simp at ha
          | lrec e => simp at ha
          | held => simp at ha
          | map es c => simp at ha
          | iter m s seen st => simp at ha
          | tabv sz' n get =>
            simp only at ha
            cases hz : Nat.beq sz sz' with
            | false => simp [hz] at ha
            | true =>
              obtain rfl := Nat.eq_of_beq_eq_true hz
              simp only [hz, Option.map_eq_some_iff] at ha
              obtain ⟨u', hu', hh⟩ := ha
              obtain ⟨rfl, rfl⟩ := Prod.mk.inj hh
              have hi : i < n := by simpa using hc
              obtain ⟨_, _, hlen, hb⟩ := hb
              rcases hb with ⟨e2, _⟩ | ⟨b', o', e2, _, hcell⟩
              · rw [hφ] at e2; cases e2
              · rw [hφ] at e2; obtain ⟨rfl, rfl⟩ := Prod.mk.inj (Option.some.inj (Option.some.inj e2))
                obtain ⟨y, h1, h2⟩ := ldCells_ok h he (V := VR R φ W) (φ := φ) (fun _ _ h => h) (b := b) (o := o + i * sz) hu' fun k w hw => by
                  obtain ⟨x, hx, hv, _⟩ := hcell i k w hi hw
                  exact ⟨x, by rw [show o + i * sz + k = o + (i * sz + k) by omega]; exact hx, hv⟩
                refine ⟨y, ?_, h2⟩
                simp only [Instr.loadAt, Instr.sureAddr, Sem.run_bind, Sem.run_pure, Result.andThen]
                rw [show o + (i * sz + j) = o + i * sz + j by omega]; exact h1
    | ip cs j =>
      simp only [Option.map_eq_some_iff] at ha
      obtain ⟨u', hu', hh⟩ := ha
      obtain ⟨rfl, rfl⟩ := Prod.mk.inj hh
      cases hx with
      | imm hi => cases hi with
        | ip xs hb hcell hv =>
          obtain ⟨y, h1, h2⟩ := ldCells_ok h he (V := IR R W) (φ := φ) (fun _ _ h => .imm h) hu' fun k w hw => ⟨_, hcell k w hw, hv k w hw⟩
          exact ⟨y, by simp only [Instr.loadAt, Instr.sureAddr, Sem.run_bind, Sem.run_pure, Result.andThen]; exact h1, h2⟩
    | _ => simp at ha
end Go.Proofs.Ythdeehkmlaejfaa.E
/- The engine, part 5: operations that only reckon. -/
namespace Go.Proofs.Ythdeehkmlaejfaa.E
open Go
set_option linter.unusedSimpArgs false
set_option linter.unusedVariables false

theorem asIntOf_int {P : Program} {W : World} (k : IntKind) (n : Int) : (asIntOf (.int k n)).run P W = .ok (k, n) W := by simp [asIntOf]

theorem add_none (b o n : Nat) : (Addr.add ⟨b, o, none⟩ n) = ⟨b, o + n, none⟩ := by unfold Addr.add; split <;> simp_all

/-- The address of a struct's field. -/
def fieldOff (tt : List TE) (s fld : Nat) : Option Nat :=
  match look tt s with
  | some e => match e.td with
    | .struct flds => match flds[fld]? with
      | some (ty, o) => match look tt ty with
        | some ef => match Nat.beq ef.size 0 with
          | true => none
          | false => some o
        | none => none
      | none => none
    | _ => none
  | none => none
def aFieldAddr (tt : List TE) (s : Nat) (x : AV) (fld : Nat) : Option (Bool × AV) :=
  match fieldOff tt s fld with
  | none => none
  | some d => match x with
    | .p l off => some (true, .p l (off + d))
    | .q l sz i j => some (true, .q l sz i (j + d))
    | .ip cs j => some (true, .ip cs (j + d))
    | _ => none

theorem fieldOff_ok {P : Program} {tt : List TE} (h : TTok P tt) {s fld d : Nat} (hd : fieldOff tt s fld = some d) (W : World) (b o : Nat) :
    (Instr.fieldAt s (.pointer (some ⟨b, o, none⟩)) fld).run P W = .ok (.pointer (some ⟨b, o + d, none⟩)) W := by
  unfold fieldOff at hd
  cases he : look tt s with
  | none => simp [he] at hd
  | some e =>
    simp only [he] at hd
    cases hde : e.td with
    | struct flds =>
      simp only [hde] at hd
      have hlk := (look_ok h he).1
      rw [hde] at hlk
      obtain ⟨fs, hfs, hmap, _⟩ := hlk
      cases hf : flds[fld]? with
      | none => simp [hf] at hd
      | some p =>
        obtain ⟨ty, o'⟩ := p
        simp only [hf] at hd
        cases hef : look tt ty with
        | none => simp [hef] at hd
        | some ef =>
          simp only [hef] at hd
          cases hz : Nat.beq ef.size 0 with
          | true => simp [hz] at hd
          | false =>
            simp only [hz] at hd
            obtain rfl := Option.some.inj hd
            have hne : ef.size ≠ 0 := by intro h0; rw [h0] at hz; simp at hz
            rw [← hmap] at hf
            obtain ⟨f, hf', hff⟩ := getElem?_map_some hf
            obtain ⟨rfl, rfl⟩ := Prod.mk.inj hff
            have hf'' : fs[fld]? = some f := by rw [← hf']; simp
            unfold Instr.fieldAt
            simp only [Sem.run_bind, run_und hfs, Result.andThen, hf'', Instr.sureAddr, Sem.run_pure]
            unfold fieldPlace
            simp only [Sem.run_bind, run_sizeOf h hef, Result.andThen, hne, if_false, Sem.run_pure, add_none]
    | _ => simp [hde] at hd

theorem aFieldAddr_ok {P : Program} {tt : List TE} (h : TTok P tt) {s fld : Nat} {R : Nat → Prop} {φ : Phi} {W : World} {x : AV} {v : Value} (hx : VR R φ W x v) {c : Bool} {u : AV} (ha : aFieldAddr tt s x fld = some (c, u)) :
    ∃ y, (Instr.fieldAt s v fld).run P W = .ok y W ∧ VR R φ W u y := by
  unfold aFieldAddr at ha
  cases hd : fieldOff tt s fld with
  | none => simp [hd] at ha
  | some d =>
    simp only [hd] at ha
    cases x with
    | p l off =>
      obtain ⟨rfl, rfl⟩ := Prod.mk.inj (Option.some.inj ha)
      cases hx with
      | imm hi => cases hi
      | p hφ => exact ⟨_, fieldOff_ok h hd W _ _, by rw [Nat.add_assoc]; exact .p hφ⟩
    | q l sz i j =>
      obtain ⟨rfl, rfl⟩ := Prod.mk.inj (Option.some.inj ha)
      cases hx with
      | imm hi => cases hi
      | q hφ =>
        refine ⟨_, fieldOff_ok h hd W _ _, ?_⟩
        have := VR.q (R := R) (W := W) (sz := sz) (i := i) (j := j + d) hφ
        simpa [Nat.add_assoc] using this
    | ip cs j =>
      obtain ⟨rfl, rfl⟩ := Prod.mk.inj (Option.some.inj ha)
      cases hx with
      | imm hi => cases hi with
        | ip xs hb hc hv => exact ⟨_, fieldOff_ok h hd W _ _, by rw [Nat.add_assoc]; exact .imm (.ip xs hb hc hv)⟩
    | _ => simp at ha

/-- A value into which the kernel doesn't look. -/
noncomputable def sealed {α : Type} (x : α) : α := Classical.choose (⟨x, rfl⟩ : ∃ y, y = x)
theorem sealed_eq {α : Type} (x : α) : sealed x = x := Classical.choose_spec (⟨x, rfl⟩ : ∃ y, y = x)
/-- An element's address. -/
noncomputable def aIndexAddr (tt : List TE) (t : Nat) (x ix : AV) : Option (Bool × AV) :=
  match look tt t with
  | none => none
  | some e => match ix with
    | .v (.int _ i) =>
      match e.td with
      | .slice elem => match look tt elem with
        | none => none
        | some ee => match x with
          | .s l sz o n => match Nat.beq sz ee.size with
            | true => some (decide (0 ≤ i) && decide (i < n), .q l sz (o + i.toNat) 0)
            | false => none
          | .i sz n get => match Nat.beq sz ee.size with
            | true => some (decide (0 ≤ i) && decide (i < n), .ip (get i.toNat) 0)
            | false => none
          | _ => none
      | .array len elem => match look tt elem with
        | none => none
        | some ee => match x with
          | .p l off => match Nat.beq off 0 with
            | true => some (decide (0 ≤ i) && decide (i < len), .q l ee.size i.toNat 0)
            | false => some (decide (0 ≤ i) && decide (i < len), .p l (off + i.toNat * ee.size))
          | .ip cs off => some (sealed (decide (0 ≤ i) && decide (i < len)), .ip cs (sealed (off + i.toNat * ee.size)))
          | _ => none
      | _ => none
    | _ => none

theorem aIndexAddr_ok {P : Program} {tt : List TE} (h : TTok P tt) {t : Nat} {R : Nat → Prop} {φ : Phi} {W : World} {x ix : AV} {v w : Value} (hx : VR R φ W x v) (hix : VR R φ W ix w) {c : Bool} {u : AV}
    (ha : aIndexAddr tt t x ix = some (c, u)) (hc : c = true) : ∃ y, (Instr.indexAt t v w).run P W = .ok y W ∧ VR R φ W u y := by
  unfold aIndexAddr at ha
  cases he : look tt t with
  | none => simp [he] at ha
  | some e =>
    simp only [he] at ha
    cases ix with
    | v z =>
      cases z with
      | int k i =>
        simp only at ha
        cases hix with
        | imm hi =>
        cases hi with
        | v _ =>
        unfold Instr.indexAt
        have hlk := (look_ok h he).1
        cases hde : e.td with
        | slice elem =>
          rw [hde] at hlk
          have hund : ∀ W, (underlying t).run P W = .ok (.slice elem) W := run_und hlk
          simp only [Sem.run_bind, asIntOf_int, Result.andThen, hund]
          simp only [hde] at ha
          cases hee : look tt elem with
          | none => simp [hee] at ha
          | some ee =>
            simp only [hee] at ha
            cases x with
            | s l sz o n =>
              simp only at ha
              cases hz : Nat.beq sz ee.size with
              | false => simp [hz] at ha
              | true =>
                simp only [hz] at ha
                obtain ⟨rfl, rfl⟩ := Prod.mk.inj (Option.some.inj ha)
                have hz := Nat.eq_of_beq_eq_true hz
                simp only [Bool.and_eq_true, decide_eq_true_eq] at hc
                obtain ⟨c0, c1⟩ := hc
                cases hx with
                | imm hi => cases hi
                | nil hφ => omega
                | z hφ => omega
                | s hφ hn hr =>
                  rename_i b f cap
                  refine ⟨.pointer (some (Addr.add ⟨b, f + o * sz, none⟩ (i.toNat * ee.size))), by simp [c0, c1, run_sizeOf h hee, Result.andThen, hund, hde], ?_⟩
                  rw [add_none, ← hz]
                  have := VR.q (R := R) (W := W) (sz := sz) (i := o + i.toNat) (j := 0) hφ
                  simpa [Nat.add_mul, Nat.add_assoc] using this
            | i sz n get =>
              simp only at ha
              cases hz : Nat.beq sz ee.size with
              | false => simp [hz] at ha
              | true =>
                simp only [hz] at ha
                obtain ⟨rfl, rfl⟩ := Prod.mk.inj (Option.some.inj ha)
                have hz := Nat.eq_of_beq_eq_true hz
                simp only [Bool.and_eq_true, decide_eq_true_eq] at hc
                obtain ⟨c0, c1⟩ := hc
                have hlt : i.toNat < n := by omega
                cases hx with
                | imm hi =>
                  cases hi with
                  | nil => omega
                  | i xs hb hn hl hcell hv hsc hs hm =>
                    rename_i b f cap
                    refine ⟨.pointer (some (Addr.add ⟨b, f, none⟩ (i.toNat * ee.size))), by simp [c0, c1, run_sizeOf h hee, Result.andThen, hund, hde], ?_⟩
                    rw [add_none, ← hz]
                    refine .imm (.ip (o := f + i.toNat * sz) (j := 0) (fun k => xs i.toNat k) hb (fun k w hw => ?_) fun k w hw => hv _ _ _ hlt hw)
                    rw [Nat.add_assoc]; exact hcell _ _ _ hlt hw
            | _ => simp at ha
        | array len elem =>
          rw [hde] at hlk
          have hund : ∀ W, (underlying t).run P W = .ok (.array len elem) W := run_und hlk
          simp only [Sem.run_bind, asIntOf_int, Result.andThen, hund]
          simp only [hde] at ha
          cases hee : look tt elem with
          | none => simp [hee] at ha
          | some ee =>
            simp only [hee] at ha
            cases x with
            | ip cs off =>
              simp only at ha
              obtain ⟨rfl, rfl⟩ := Prod.mk.inj (Option.some.inj ha)
              rw [sealed_eq] at hc
              rw [sealed_eq]
              simp only [Bool.and_eq_true, decide_eq_true_eq] at hc
              obtain ⟨c0, c1⟩ := hc
              cases hx with
              | imm hi =>
                cases hi with
                | ip xs hb hcell hv =>
                  rename_i b f
                  refine ⟨.pointer (some (Addr.add ⟨b, f + off, none⟩ (i.toNat * ee.size))), by simp [Instr.sureAddr, c0, c1, run_sizeOf h hee, Result.andThen, hund, hde], ?_⟩
                  rw [add_none, Nat.add_assoc]
                  exact .imm (.ip xs hb hcell hv)
            | p l off =>
              simp only at ha
              cases h2 : Nat.beq off 0 with
              | false =>
                simp only [h2] at ha
                obtain ⟨rfl, rfl⟩ := Prod.mk.inj (Option.some.inj ha)
                simp only [Bool.and_eq_true, decide_eq_true_eq] at hc
                obtain ⟨c0, c1⟩ := hc
                cases hx with
                | imm hi => cases hi
                | p hφ =>
                  rename_i b f
                  refine ⟨.pointer (some (Addr.add ⟨b, f + off, none⟩ (i.toNat * ee.size))), by simp [Instr.sureAddr, c0, c1, run_sizeOf h hee, Result.andThen, hund, hde], ?_⟩
                  rw [add_none]
                  have := VR.p (R := R) (W := W) (off := off + i.toNat * ee.size) hφ
                  simpa [Nat.add_assoc] using this
              | true =>
                simp only [h2] at ha
                obtain ⟨rfl, rfl⟩ := Prod.mk.inj (Option.some.inj ha)
                obtain rfl := Nat.eq_of_beq_eq_true h2
                simp only [Bool.and_eq_true, decide_eq_true_eq] at hc
                obtain ⟨c0, c1⟩ := hc
                cases hx with
                | imm hi => cases hi
                | p hφ =>
                  rename_i b f
                  refine ⟨.pointer (some (Addr.add ⟨b, f + 0, none⟩ (i.toNat * ee.size))), by simp [Instr.sureAddr, c0, c1, run_sizeOf h hee, Result.andThen, hund, hde], ?_⟩
                  rw [add_none]
                  have := VR.q (R := R) (W := W) (sz := ee.size) (i := i.toNat) (j := 0) hφ
                  simpa [Nat.add_assoc] using this
            | _ => simp at ha
        | _ => simp [hde] at ha
      | _ => simp at ha
    | _ => simp at ha
end Go.Proofs.Ythdeehkmlaejfaa.E
/- The engine, part 6: operators, parts of values, comparisons. -/
namespace Go.Proofs.Ythdeehkmlaejfaa.E
open Go
set_option linter.unusedSimpArgs false
set_option linter.unusedVariables false

/-- A part of an aggregate. -/
def aPart (tt : List TE) (t : Nat) (cs : List AV) (off : Nat) : Option AV :=
  match look tt t with
  | none => none
  | some e => ldCells e cs off

theorem vs_get {cells : List AV} {vs : List Value} (hl : cells.length = vs.length) {k : Nat} {u : AV} (h : cells[k]? = some u) : ∃ x, vs[k]? = some x := by
  have hk : k < cells.length := by
    rcases Nat.lt_or_ge k cells.length with h1 | h1
    · exact h1
    · rw [List.getElem?_eq_none h1] at h; cases h
  exact ⟨vs[k]'(hl ▸ hk), List.getElem?_eq_getElem (hl ▸ hk)⟩

/-- An aggregate, as it stands. -/
theorem VR.agg {R : Nat → Prop} {φ : Phi} {W : World} {cs : List AV} {v : Value} (h : VR R φ W (.a cs) v) : ∃ vs : List Value, v = .agg vs.toArray ∧ cs.length = vs.length ∧ ∀ (k : Nat) (u : AV) (x : Value), cs[k]? = some u → vs[k]? = some x → VR R φ W u x := by
  cases h with
  | imm h => cases h with
    | a hl hx => exact ⟨_, rfl, hl, fun k u x hu hx' => .imm (hx k u x hu hx')⟩
  | a hl hx => exact ⟨_, rfl, hl, hx⟩
theorem VR.tup {R : Nat → Prop} {φ : Phi} {W : World} {cs : List AV} {v : Value} (h : VR R φ W (.t cs) v) : ∃ vs : List Value, v = .tuple vs.toArray ∧ cs.length = vs.length ∧ ∀ (k : Nat) (u : AV) (x : Value), cs[k]? = some u → vs[k]? = some x → VR R φ W u x := by
  cases h with
  | imm h => cases h with
    | t hl hx => exact ⟨_, rfl, hl, fun k u x hu hx' => .imm (hx k u x hu hx')⟩
  | t hl hx => exact ⟨_, rfl, hl, hx⟩
theorem VR.val {R : Nat → Prop} {φ : Phi} {W : World} {x v : Value} (h : VR R φ W (.v x) v) : v = x := by
  cases h with
  | imm h => cases h; rfl

theorem aPart_ok {P : Program} {tt : List TE} (h : TTok P tt) {t : Nat} {R : Nat → Prop} {φ : Phi} {W : World} {cs : List AV} {vs : List Value} (hl : cs.length = vs.length)
    (hx : ∀ (k : Nat) (u : AV) (x : Value), cs[k]? = some u → vs[k]? = some x → VR R φ W u x) {off : Nat} {u : AV} (ha : aPart tt t cs off = some u) :
    ∃ x, (part t vs.toArray off).run P W = .ok x W ∧ VR R φ W u x := by
  unfold aPart at ha
  cases he : look tt t with
  | none => simp [he] at ha
  | some e =>
    simp only [he, ldCells] at ha
    unfold part
    simp only [Sem.run_bind, run_isAgg h he, Result.andThen]
    cases hd : isAggD e.td with
    | true =>
      simp only [hd] at ha
      cases hb : Nat.ble (off + e.size) cs.length with
      | false => simp [hb] at ha
      | true =>
        simp only [hb] at ha
        obtain rfl := Option.some.inj ha
        have hle : off + e.size ≤ cs.length := Nat.le_of_ble_eq_true hb
        refine ⟨.agg ((vs.drop off).take e.size).toArray, by simp [run_sizeOf h he, Result.andThen], .a (by simp [hl]) fun k w x hw hx' => ?_⟩
        rw [List.getElem?_take] at hw hx'
        split at hw
        · rename_i hk
          rw [if_pos hk] at hx'
          rw [List.getElem?_drop] at hw hx'
          exact hx _ w x hw hx'
        · cases hw
    | false =>
      simp only [hd] at ha
      obtain ⟨x, hx'⟩ := vs_get hl ha
      exact ⟨x, by simp [hx'], hx off u x ha hx'⟩

/-- A whole number's operator. -/
def intBin (op : BinOp) (k : IntKind) (a b : Int) : Option (Bool × AV) :=
  match op with
  | .add => some (true, .v (.int k (k.wrap (a + b))))
  | .sub => some (true, .v (.int k (k.wrap (a - b))))
  | .mul => some (true, .v (.int k (k.wrap (a * b))))
  | .quo => some (!(decide (b = 0)), .v (.int k (k.wrap (a.tdiv b))))
  | .rem => some (!(decide (b = 0)), .v (.int k (a.tmod b)))
  | .and => some (true, .v (.int k (bits .and k a b)))
  | .or => some (true, .v (.int k (bits .or k a b)))
  | .xor => some (true, .v (.int k (bits .xor k a b)))
  | .andNot => some (true, .v (.int k (bits .andNot k a b)))
  | .eql => some (true, .v (.bool (decide (a = b))))
  | .neq => some (true, .v (.bool (!(decide (a = b)))))
  | .lss => some (true, .v (.bool (decide (a < b))))
  | .leq => some (true, .v (.bool (decide (a ≤ b))))
  | .gtr => some (true, .v (.bool (decide (b < a))))
  | .geq => some (true, .v (.bool (decide (b ≤ a))))
  | .shl => some (decide (0 ≤ b), .v (.int k (k.wrap (a * 2 ^ min b.toNat k.bits))))
  | .shr => some (decide (0 ≤ b), .v (.int k (a.fdiv (2 ^ min b.toNat k.bits))))

def sameKind (k k' : IntKind) : Bool :=
  match k, k' with
  | .i8, .i8 | .i16, .i16 | .i32, .i32 | .i64, .i64 | .u8, .u8 | .u16, .u16 | .u32, .u32 | .u64, .u64 => true
  | _, _ => false
theorem sameKind_eq {k k' : IntKind} (h : sameKind k k' = true) : k = k' := by cases k <;> cases k' <;> first | rfl | cases h

theorem beq_dec (a b : Int) : (a == b) = decide (a = b) := by by_cases h : a = b <;> simp [h]

theorem intBin_ok {P : Program} {W : World} {op : BinOp} {k k' : IntKind} {a b : Int} {t : Nat} {c : Bool} {u : AV} (hk : k = k' ∨ op = .shl ∨ op = .shr) (h : intBin op k a b = some (c, u)) (hc : c = true) :
    ∃ y, (binOp op t (.int k a) (.int k' b)).run P W = .ok y W ∧ u = .v y := by
  have shl : op = .shl → ∃ y, (binOp op t (.int k a) (.int k' b)).run P W = .ok y W ∧ u = .v y := by
    rintro rfl
    obtain ⟨rfl, rfl⟩ := Prod.mk.inj (Option.some.inj h)
    have : ¬ b < 0 := by have := of_decide_eq_true hc; omega
    exact ⟨_, by simp only [binOp, Op.shift, this, if_false]; rfl, rfl⟩
  have shr : op = .shr → ∃ y, (binOp op t (.int k a) (.int k' b)).run P W = .ok y W ∧ u = .v y := by
    rintro rfl
    obtain ⟨rfl, rfl⟩ := Prod.mk.inj (Option.some.inj h)
    have : ¬ b < 0 := by have := of_decide_eq_true hc; omega
    exact ⟨_, by simp only [binOp, Op.shift, this, if_false]; rfl, rfl⟩
  rcases hk with rfl | hk | hk
  · cases op
    case shl => exact shl rfl
    case shr => exact shr rfl
    case quo =>
      obtain ⟨rfl, rfl⟩ := Prod.mk.inj (Option.some.inj h)
      have hb : b ≠ 0 := by simpa using hc
      exact ⟨_, by simp only [binOp_quo, Op.intDiv, hb, if_false]; rfl, rfl⟩
    case rem =>
      obtain ⟨rfl, rfl⟩ := Prod.mk.inj (Option.some.inj h)
      have hb : b ≠ 0 := by simpa using hc
      exact ⟨_, by simp only [binOp_rem, Op.intDiv, hb, if_false]; rfl, rfl⟩
    case eql => obtain ⟨rfl, rfl⟩ := Prod.mk.inj (Option.some.inj h); exact ⟨_, by simp only [binOp_eql]; rw [beq_dec]; rfl, rfl⟩
    case neq => obtain ⟨rfl, rfl⟩ := Prod.mk.inj (Option.some.inj h); exact ⟨_, by simp only [binOp_neq, bne]; rw [beq_dec]; rfl, rfl⟩
    all_goals (obtain ⟨rfl, rfl⟩ := Prod.mk.inj (Option.some.inj h); exact ⟨_, by simp only [binOp_add, binOp_sub, binOp_mul, binOp_and, binOp_or, binOp_xor, binOp_andNot, binOp_lss, binOp_leq, binOp_gtr, binOp_geq]; rfl, rfl⟩)
  · exact shl hk
  · exact shr hk

/-- Are two values alike, by their type? -/
def aFields (eq : Nat → AV → AV → Option Bool) (tt : List TE) (xs ys : List AV) : List (Nat × Nat) → Option Bool
  | [] => some true
  | (t, o) :: fs =>
    match aPart tt t xs o, aPart tt t ys o with
    | some a, some b => match eq t a b with
      | some r => match fs with
        | [] => some r
        | _ => match aFields eq tt xs ys fs with
          | some s => some (r && s)
          | none => none
      | none => none
    | _, _ => none
def aItems (eq : AV → AV → Option Bool) (tt : List TE) (el sz : Nat) (xs ys : List AV) : List Nat → Option Bool
  | [] => some true
  | i :: is =>
    match aPart tt el xs (i * sz), aPart tt el ys (i * sz) with
    | some a, some b => match eq a b with
      | some r => match is with
        | [] => some r
        | _ => match aItems eq tt el sz xs ys is with
          | some s => some (r && s)
          | none => none
      | none => none
    | _, _ => none
def isScal (tt : List TE) (t : Nat) : Bool := match look tt t with
  | some e => match e.td with
    | .bool => true
    | .int _ => true
    | _ => false
  | none => false
def aEq (tt : List TE) : Nat → Nat → AV → AV → Option Bool
  | 0, _, _, _ => none
  | d + 1, t, x, y =>
    match look tt t with
    | none => none
    | some e =>
      match e.td, x, y with
      | .bool, .v (.bool a), .v (.bool b) => some (a == b)
      | .int _, .v (.int k a), .v (.int k' b) => match sameKind k k' with | true => some (decide (a = b)) | false => none
      | .string, .v (.string a), .v (.string b) => some (a.toList == b.toList)
      | .struct flds, .a xs, .a ys => aFields (fun t a b => aEq tt d t a b) tt xs ys flds
      | .array n el, .a xs, .a ys => match look tt el with
        | some ee => aItems (fun a b => aEq tt d el a b) tt el ee.size xs ys (List.range n)
        | none => none
      | _, _, _ => none

theorem aEq_ok {P : Program} {tt : List TE} (h : TTok P tt) {R : Nat → Prop} {φ : Phi} {W : World} : ∀ (d : Nat) (t : Nat) (x y : AV) (v w : Value) (r : Bool), VR R φ W x v → VR R φ W y w → aEq tt d t x y = some r → ∀ D, d ≤ D → (Op.equalIn D t v w).run P W = .ok r W := by
  intro d
  induction d with
  | zero => intro t x y v w r _ _ ha; simp [aEq] at ha
  | succ d ih =>
    intro t x y v w r hx hy ha D hD
    obtain ⟨D, rfl⟩ : ∃ m, D = m + 1 := ⟨D - 1, by omega⟩
    unfold aEq at ha
    cases he : look tt t with
    | none => simp [he] at ha
    | some e =>
      simp only [he] at ha
      have hlk := (look_ok h he).1
      split at ha
      · rename_i a b htd
        rw [htd] at hlk
        rw [hx.val, hy.val]
        obtain rfl := Option.some.inj ha
        exact run_equalIn_bool' W D t a b hlk
      · rename_i k0 k a k' b htd
        rw [htd] at hlk
        rw [hx.val, hy.val]
        cases hk : sameKind k k' with
        | false => simp [hk] at ha
        | true =>
          obtain rfl := sameKind_eq hk
          simp only [hk] at ha
          obtain rfl := Option.some.inj ha
          rw [← beq_dec]
          exact run_equalIn_int W D t k k0 a b hlk
      · rename_i a b htd
        rw [htd] at hlk
        rw [hx.val, hy.val]
        obtain rfl := Option.some.inj ha
        exact run_equalIn_string W D t a b hlk
      · rename_i flds xs ys htd
        rw [htd] at hlk
        obtain ⟨fs, hu, hmap, hall, hp, hm⟩ := hlk
        obtain ⟨vs, rfl, l1, r1⟩ := hx.agg
        obtain ⟨us, rfl, l2, r2⟩ := hy.agg
        have hf : P.fieldsOf t = fs := by simp [Program.fieldsOf, hu]
        rw [run_equalIn_struct (P := P) W D t _ _ (by rw [hf]; exact hu) hp, hf]
        subst hmap
        generalize fs.toList = l at *
        clear hu hf htd
        induction l generalizing r with
        | nil => simp [aFields] at ha; subst ha; simp [Op.eqFields]
        | cons f l ihl =>
          simp only [List.map_cons, aFields] at ha
          simp only [List.all_cons, Bool.and_eq_true] at hall
          cases ha1 : aPart tt f.type xs f.offset with
          | none => simp [ha1] at ha
          | some a =>
            cases ha2 : aPart tt f.type ys f.offset with
            | none => simp [ha1, ha2] at ha
            | some b =>
              simp only [ha1, ha2] at ha
              obtain ⟨x1, e1, q1⟩ := aPart_ok h l1 r1 ha1
              obtain ⟨x2, e2, q2⟩ := aPart_ok h l2 r2 ha2
              cases ha3 : aEq tt d f.type a b with
              | none => simp [ha3] at ha
              | some r3 =>
                simp only [ha3] at ha
                have e3 := ih f.type a b x1 x2 r3 q1 q2 ha3 D (by omega)
                have hne : f.name ≠ "_" := by simpa using hall.1
                simp only [Op.eqFields, if_pos hne, Sem.run_bind, e1, e2, e3, Result.andThen_ok]
                cases l with
                | nil =>
                  simp only [List.map_nil] at ha
                  obtain rfl := Option.some.inj ha
                  cases r3 <;> simp [Op.eqFields]
                | cons f' l' =>
                  simp only [List.map_cons] at ha
                  cases ha4 : aFields (fun t a b => aEq tt d t a b) tt xs ys ((f'.type, f'.offset) :: l'.map fun f => (f.type, f.offset)) with
                  | none => simp [ha4] at ha
                  | some s =>
                    simp only [ha4] at ha
                    obtain rfl := Option.some.inj ha
                    have := ihl s hall.2 ha4
                    cases r3
                    · simp
                    · simpa using this
      · rename_i n el xs ys htd
        rw [htd] at hlk
        have hlk : P.underlying t = some (.array n el) := hlk
        split at ha
        case h_2 => cases ha
        rename_i ee hee
        obtain ⟨_, i, z, hi, hsz, _⟩ := look_ok h hee
        obtain ⟨vs, rfl, l1, r1⟩ := hx.agg
        obtain ⟨us, rfl, l2, r2⟩ := hy.agg
        have hc : P.cellsOf el = ee.size := by simp [Program.cellsOf, hi, hsz]
        rw [run_equalIn_array (P := P) W D _ _ hlk hi, hc]
        generalize List.range n = is at *
        clear hlk htd
        induction is generalizing r with
        | nil => simp [aItems] at ha; subst ha; simp [Op.eqItems]
        | cons j is ihl =>
          simp only [aItems] at ha
          cases ha1 : aPart tt el xs (j * ee.size) with
          | none => simp [ha1] at ha
          | some a =>
            cases ha2 : aPart tt el ys (j * ee.size) with
            | none => simp [ha1, ha2] at ha
            | some b =>
              simp only [ha1, ha2] at ha
              obtain ⟨x1, e1, q1⟩ := aPart_ok h l1 r1 ha1
              obtain ⟨x2, e2, q2⟩ := aPart_ok h l2 r2 ha2
              cases ha3 : aEq tt d el a b with
              | none => simp [ha3] at ha
              | some r3 =>
                simp only [ha3] at ha
                have e3 := ih el a b x1 x2 r3 q1 q2 ha3 D (by omega)
                simp only [Op.eqItems, Sem.run_bind, e1, e2, e3, Result.andThen_ok]
                cases is with
                | nil =>
                  simp only at ha
                  obtain rfl := Option.some.inj ha
                  cases r3 <;> simp [Op.eqItems]
                | cons j' is' =>
                  simp only at ha
                  cases ha4 : aItems (fun a b => aEq tt d el a b) tt el ee.size xs ys (j' :: is') with
                  | none => simp [ha4] at ha
                  | some s =>
                    simp only [ha4] at ha
                    obtain rfl := Option.some.inj ha
                    have := ihl s ha4
                    cases r3
                    · simp
                    · simpa using this
      · cases ha

/-- An operator. -/
def aBin (tt : List TE) (op : BinOp) (t : Nat) (x y : AV) : Option (Bool × AV) :=
  match x, y with
  | .v (.int k a), .v (.int k' b) =>
    match op with
    | .shl => intBin .shl k a b
    | .shr => intBin .shr k a b
    | op => match sameKind k k' with | true => intBin op k a b | false => none
  | .v (.string a), .v (.string b) =>
    match op with
    | .eql => some (true, .v (.bool (a.toList == b.toList)))
    | .neq => some (true, .v (.bool (!(a.toList == b.toList))))
    | .add => some (decide (a.size + b.size < 1099511627776), .v (.string (a ++ b)))
    | _ => none
  | .v (.bool a), .v (.bool b) =>
    match op with
    | .eql => (aEq tt 9 t x y).map fun r => (true, .v (.bool r))
    | .neq => (aEq tt 9 t x y).map fun r => (true, .v (.bool (!r)))
    | _ => none
  | .a xs, .a ys =>
    match look tt t with
    | some e => match e.td with
      | .struct _ => match op with
        | .eql => (aEq tt 9 t x y).map fun r => (true, .v (.bool r))
        | .neq => (aEq tt 9 t x y).map fun r => (true, .v (.bool (!r)))
        | _ => none
      | .array _ el => match isScal tt el, op with
        | true, .eql => (aEq tt 9 t x y).map fun r => (true, .v (.bool r))
        | true, .neq => (aEq tt 9 t x y).map fun r => (true, .v (.bool (!r)))
        | _, _ => none
      | _ => none
    | none => none
  | _, _ => none

theorem aBin_ok {P : Program} {tt : List TE} (h : TTok P tt) {R : Nat → Prop} {φ : Phi} {W : World} {op : BinOp} {t : Nat} {x y : AV} {v w : Value} (hx : VR R φ W x v) (hy : VR R φ W y w) {c : Bool} {u : AV}
    (ha : aBin tt op t x y = some (c, u)) (hc : c = true) (X Y : Operand) : ∃ z, (do eqGuard op t X Y v w; binOp op t v w : Sem Value).run P W = .ok z W ∧ VR R φ W u z := by
  unfold aBin at ha
  split at ha
  · rename_i k a k' b
    rw [hx.val, hy.val]
    have key : ∀ {op' : BinOp}, (k = k' ∨ op' = .shl ∨ op' = .shr) → intBin op' k a b = some (c, u) → ∃ z, (do eqGuard op' t X Y (.int k a) (.int k' b); binOp op' t (.int k a) (.int k' b) : Sem Value).run P W = .ok z W ∧ VR R φ W u z := by
      intro op' hk hi
      obtain ⟨z, h1, rfl⟩ := intBin_ok (P := P) (W := W) (t := t) hk hi hc
      exact ⟨z, by simp only [eqGuard_at_int, Sem.run_bind, Sem.run_pure, Result.andThen_ok]; exact h1, .imm (.v z)⟩
    split at ha
    · exact key (.inr (.inl rfl)) ha
    · exact key (.inr (.inr rfl)) ha
    · cases hk : sameKind k k' with
      | false => simp [hk] at ha
      | true => simp only [hk] at ha; exact key (.inl (sameKind_eq hk)) ha
  · rename_i a b
    rw [hx.val, hy.val]
    simp only [eqGuard_at_string, Sem.run_bind, Sem.run_pure, Result.andThen_ok, binOp]
    split at ha
    · obtain ⟨rfl, rfl⟩ := Prod.mk.inj (Option.some.inj ha); exact ⟨_, rfl, .imm (.v _)⟩
    · obtain ⟨rfl, rfl⟩ := Prod.mk.inj (Option.some.inj ha); exact ⟨_, rfl, .imm (.v _)⟩
    · obtain ⟨rfl, rfl⟩ := Prod.mk.inj (Option.some.inj ha)
      have hlt : a.size + b.size < 1099511627776 := of_decide_eq_true hc
      refine ⟨.string (a ++ b), ?_, .imm (.v _)⟩
      have : ¬ (((a.size + b.size : Nat) : Int) > IntKind.i64.max) := by simp [IntKind.max, IntKind.signed, IntKind.bits]; omega
      simp only [Op.stringOp, this, if_false]; rfl
    · cases ha
  · rename_i a b
    split at ha
    · simp only [Option.map_eq_some_iff] at ha
      obtain ⟨r, hr, hh⟩ := ha
      obtain ⟨rfl, rfl⟩ := Prod.mk.inj hh
      have := aEq_ok h 9 t _ _ v w r hx hy hr 10000 (by omega)
      rw [hx.val, hy.val] at this ⊢
      exact ⟨.bool r, by simp only [eqGuard_at_bool, Sem.run_bind, Sem.run_pure, Result.andThen_ok, binOp, Op.equal, Op.maxDepth, this], .imm (.v _)⟩
    · simp only [Option.map_eq_some_iff] at ha
      obtain ⟨r, hr, hh⟩ := ha
      obtain ⟨rfl, rfl⟩ := Prod.mk.inj hh
      have := aEq_ok h 9 t _ _ v w r hx hy hr 10000 (by omega)
      rw [hx.val, hy.val] at this ⊢
      exact ⟨.bool (!r), by simp only [eqGuard_at_bool, Sem.run_bind, Sem.run_pure, Result.andThen_ok, binOp, Op.equal, Op.maxDepth, this], .imm (.v _)⟩
    · cases ha
  · rename_i xs ys
    cases he : look tt t with
    | none => simp [he] at ha
    | some e =>
      simp only [he] at ha
      have hlk := (look_ok h he).1
      cases htd : e.td <;> simp only [htd] at ha <;> try (cases ha; done)
      case array n el =>
        rw [htd] at hlk
        have hlk : P.underlying t = some (.array n el) := hlk
        obtain ⟨vs, rfl, l1, r1⟩ := hx.agg
        obtain ⟨us, rfl, l2, r2⟩ := hy.agg
        have hm : isScal tt el = true → P.eqGuardType P.depth t = false := fun hsc => by
          unfold isScal at hsc
          cases hee : look tt el with
          | none => simp [hee] at hsc
          | some ee =>
            have hk := (look_ok h hee).1
            simp only [hee] at hsc
            have e1 : P.depth = (2 * (P.types.size + Made.depth)) + 1 + 1 := rfl
            rw [e1]
            cases hd : ee.td <;> simp only [hd] at hsc hk <;> try (cases hsc; done)
            all_goals
              have hk := hk
              simp only [TD.is] at hk
              simp only [Program.eqGuardType, hlk, hk]
        split at ha
        · rename_i hsc
          simp only [Option.map_eq_some_iff] at ha
          obtain ⟨r, hr, hh⟩ := ha
          obtain ⟨rfl, rfl⟩ := Prod.mk.inj hh
          have := aEq_ok h 9 t _ _ _ _ r hx hy hr 10000 (by omega)
          exact ⟨.bool r, by simp only [Sem.run_bind, run_eqGuard_agg (P := P) W .eql t X Y _ _ (hm hsc), Result.andThen_ok, run_eql_struct, this], .imm (.v _)⟩
        · rename_i hsc
          simp only [Option.map_eq_some_iff] at ha
          obtain ⟨r, hr, hh⟩ := ha
          obtain ⟨rfl, rfl⟩ := Prod.mk.inj hh
          have := aEq_ok h 9 t _ _ _ _ r hx hy hr 10000 (by omega)
          exact ⟨.bool (!r), by simp only [Sem.run_bind, run_eqGuard_agg (P := P) W .neq t X Y _ _ (hm hsc), Result.andThen_ok, run_neq_struct, this], .imm (.v _)⟩
        · cases ha
      rename_i flds
      rw [htd] at hlk
      obtain ⟨fs, hu, hmap, hall, hp, hm⟩ := hlk
      obtain ⟨vs, rfl, l1, r1⟩ := hx.agg
      obtain ⟨us, rfl, l2, r2⟩ := hy.agg
      split at ha
      · simp only [Option.map_eq_some_iff] at ha
        obtain ⟨r, hr, hh⟩ := ha
        obtain ⟨rfl, rfl⟩ := Prod.mk.inj hh
        have := aEq_ok h 9 t _ _ _ _ r hx hy hr 10000 (by omega)
        exact ⟨.bool r, by simp only [Sem.run_bind, run_eqGuard_agg (P := P) W .eql t X Y _ _ hm, Result.andThen_ok, run_eql_struct, this], .imm (.v _)⟩
      · simp only [Option.map_eq_some_iff] at ha
        obtain ⟨r, hr, hh⟩ := ha
        obtain ⟨rfl, rfl⟩ := Prod.mk.inj hh
        have := aEq_ok h 9 t _ _ _ _ r hx hy hr 10000 (by omega)
        exact ⟨.bool (!r), by simp only [Sem.run_bind, run_eqGuard_agg (P := P) W .neq t X Y _ _ hm, Result.andThen_ok, run_neq_struct, this], .imm (.v _)⟩
      · cases ha
  · cases ha
end Go.Proofs.Ythdeehkmlaejfaa.E
/- The engine, part 7: the other operations that only reckon. -/
namespace Go.Proofs.Ythdeehkmlaejfaa.E
open Go
set_option linter.unusedSimpArgs false
set_option linter.unusedVariables false

/-- A field of an aggregate. -/
def aField (tt : List TE) (t : Nat) (x : AV) (fld : Nat) : Option (Bool × AV) :=
  match look tt t, x with
  | some e, .a cs => match e.td with
    | .struct flds => match flds[fld]? with
      | some (ty, o) => (aPart tt ty cs o).map fun u => (true, u)
      | none => none
    | _ => none
  | _, _ => none
theorem aField_ok {P : Program} {tt : List TE} (h : TTok P tt) {t fld : Nat} {R : Nat → Prop} {φ : Phi} {W : World} {x : AV} {v : Value} (hx : VR R φ W x v) {c : Bool} {u : AV} (ha : aField tt t x fld = some (c, u)) :
    ∃ y, (Instr.field t v fld).run P W = .ok y W ∧ VR R φ W u y := by
  unfold aField at ha
  split at ha
  · rename_i e cs he
    split at ha
    · rename_i flds htd
      split at ha
      · rename_i ty o hf
        simp only [Option.map_eq_some_iff] at ha
        obtain ⟨u', hu', hh⟩ := ha
        obtain ⟨rfl, rfl⟩ := Prod.mk.inj hh
        have hlk := (look_ok h he).1
        rw [htd] at hlk
        obtain ⟨fs, hu, hmap, _⟩ := hlk
        obtain ⟨vs, rfl, hl, hr⟩ := hx.agg
        rw [← hmap] at hf
        obtain ⟨f, hf', hff⟩ := getElem?_map_some hf
        obtain ⟨rfl, rfl⟩ := Prod.mk.inj hff
        have hf'' : fs[fld]? = some f := by rw [← hf']; simp
        obtain ⟨y, h1, h2⟩ := aPart_ok h hl hr hu'
        exact ⟨y, by unfold Instr.field; simp only [Sem.run_bind, run_und hu, Result.andThen, hf'', asAgg, Sem.run_pure]; exact h1, h2⟩
      · cases ha
    · cases ha
  · cases ha

def byteAt (s : ByteArray) (i : Int) : Int := if h : i.toNat < s.size then ((s[i.toNat]'h).toNat : Int) else 0
/-- A byte of a text. -/
def aIndex (tt : List TE) (t : Nat) (x ix : AV) : Option (Bool × AV) :=
  match look tt t, x, ix with
  | some e, .v (.string s), .v (.int _ i) => match e.td with
    | .string => some (decide (0 ≤ i) && decide (i < s.size), .v (.int .u8 (byteAt s i)))
    | _ => none
  | _, _, _ => none
theorem aIndex_ok {P : Program} {tt : List TE} (h : TTok P tt) {t : Nat} {R : Nat → Prop} {φ : Phi} {W : World} {x ix : AV} {v w : Value} (hx : VR R φ W x v) (hix : VR R φ W ix w) {c : Bool} {u : AV} (ha : aIndex tt t x ix = some (c, u)) (hc : c = true) :
    ∃ y, (Instr.index t v w).run P W = .ok y W ∧ VR R φ W u y := by
  unfold aIndex at ha
  split at ha
  · rename_i e s k i he
    split at ha
    · rename_i htd
      obtain ⟨rfl, rfl⟩ := Prod.mk.inj (Option.some.inj ha)
      have hlk := (look_ok h he).1
      rw [htd] at hlk
      rw [hx.val, hix.val]
      simp only [Bool.and_eq_true, decide_eq_true_eq] at hc
      obtain ⟨c0, c1⟩ := hc
      have hlt : i.toNat < s.size := by omega
      refine ⟨.int .u8 (byteAt s i), ?_, .imm (.v _)⟩
      have hbt : byteAt s i = ((s[i.toNat]'hlt).toNat : Int) := by unfold byteAt; rw [dif_pos hlt]
      unfold Instr.index
      simp only [Sem.run_bind, asIntOf_int, Result.andThen, run_und hlk, c0, if_true]
      have : s[i.toNat]? = some (s[i.toNat]'hlt) := getElem?_pos s i.toNat hlt
      rw [this, hbt]; rfl
    · cases ha
  · cases ha

def aExtract (x : AV) (k : Nat) : Option (Bool × AV) :=
  match x with
  | .t vs => (vs[k]?).map fun u => (true, u)
  | _ => none
theorem aExtract_ok {P : Program} {R : Nat → Prop} {φ : Phi} {W : World} {x : AV} {v : Value} (hx : VR R φ W x v) {k : Nat} {c : Bool} {u : AV} (ha : aExtract x k = some (c, u)) :
    ∃ y, (Instr.extract v k).run P W = .ok y W ∧ VR R φ W u y := by
  cases x with
  | t us =>
    simp only [aExtract, Option.map_eq_some_iff] at ha
    obtain ⟨u', hu', hh⟩ := ha
    obtain ⟨rfl, rfl⟩ := Prod.mk.inj hh
    obtain ⟨vs, rfl, hl, hr⟩ := hx.tup
    obtain ⟨y, hy⟩ := vs_get hl hu'
    exact ⟨y, by unfold Instr.extract; simp [hy], hr k u' y hu' hy⟩
  | _ => simp [aExtract] at ha

def aLen (tt : List TE) (t : Nat) (x : AV) : Option (Bool × AV) :=
  match look tt t with
  | none => none
  | some e => match e.td, x with
    | .slice _, .s _ _ _ n => some (true, .v (.int .i64 n))
    | .slice _, .i _ n _ => some (true, .v (.int .i64 n))
    | .slice _, .v (.slice none n _) => some (true, .v (.int .i64 n))
    | .slice _, .z => some (true, .v (.int .i64 (0 : Nat)))
    | .string, .v (.string s) => some (true, .v (.int .i64 s.size))
    | .array n _, _ => some (true, .v (.int .i64 n))
    | _, _ => none
theorem aLen_ok {P : Program} {tt : List TE} (h : TTok P tt) {t ty : Nat} {R : Nat → Prop} {φ : Phi} {W : World} {x : AV} {v : Value} (hx : VR R φ W x v) {c : Bool} {u : AV} (ha : aLen tt t x = some (c, u)) :
    ∃ y, (Builtin.len_ #[t] ty #[v]).run P W = .ok y W ∧ VR R φ W u y := by
  unfold aLen at ha
  cases he : look tt t with
  | none => simp [he] at ha
  | some e =>
    simp only [he] at ha
    have hlk := (look_ok h he).1
    have go : ∀ {d : TypeDesc}, P.underlying t = some d → (Builtin.len_ #[t] ty #[v]).run P W = (match d, v with
      | .string, .string s => (pure (goInt s.size) : Sem Value)
      | .array n _, _ => pure (goInt n)
      | .slice _, .slice _ n _ => pure (goInt n)
      | _, _ => Builtin.len_ #[t] ty #[v]).run P W := by
      intro d hd
      split <;> (try rfl) <;> (unfold Builtin.len_; simp [run_und hd, goInt])
    split at ha
    all_goals (try (cases ha; done))
    all_goals (rename_i htd)
    all_goals (obtain ⟨rfl, rfl⟩ := Prod.mk.inj (Option.some.inj ha); rw [htd] at hlk; rw [go hlk])
    · cases hx with
      | imm hi => cases hi
      | nil => exact ⟨_, rfl, .imm (.v _)⟩
      | z => exact ⟨_, rfl, .imm (.v _)⟩
      | s => exact ⟨_, rfl, .imm (.v _)⟩
    · cases hx with
      | imm hi => cases hi with
        | nil => exact ⟨_, rfl, .imm (.v _)⟩
        | i => exact ⟨_, rfl, .imm (.v _)⟩
    · rw [hx.val]; exact ⟨_, rfl, .imm (.v _)⟩
    · cases hx with
      | imm hi => cases hi with
        | z => exact ⟨_, rfl, .imm (.v _)⟩
    · rw [hx.val]; exact ⟨_, rfl, .imm (.v _)⟩
    · exact ⟨_, rfl, .imm (.v _)⟩

/-- How much room a slice has, where that is known. -/
def aCap (tt : List TE) (t : Nat) (x : AV) : Option (Bool × AV) :=
  match look tt t with
  | none => none
  | some e => match e.td, x with
    | .slice _, .v (.slice none _ c) => some (true, .v (.int .i64 c))
    | .slice _, .z => some (true, .v (.int .i64 (0 : Nat)))
    | _, _ => none
theorem aCap_ok {P : Program} {tt : List TE} (h : TTok P tt) {t ty : Nat} {R : Nat → Prop} {φ : Phi} {W : World} {x : AV} {v : Value} (hx : VR R φ W x v) {c : Bool} {u : AV} (ha : aCap tt t x = some (c, u)) :
    ∃ y, (Builtin.cap_ #[t] ty #[v]).run P W = .ok y W ∧ VR R φ W u y := by
  unfold aCap at ha
  cases he : look tt t with
  | none => simp [he] at ha
  | some e =>
    simp only [he] at ha
    have hlk := (look_ok h he).1
    have go : ∀ {el : TypeId} {a : Option Addr} {n c : Nat}, P.underlying t = some (.slice el) → (Builtin.cap_ #[t] ty #[.slice a n c]).run P W = .ok (goInt c) W := by
      intro el a n c hd
      unfold Builtin.cap_
      simp [run_und hd]
    split at ha
    all_goals (try (cases ha; done))
    all_goals (rename_i htd)
    all_goals (obtain ⟨rfl, rfl⟩ := Prod.mk.inj (Option.some.inj ha); rw [htd] at hlk)
    · rw [hx.val, go hlk]; exact ⟨_, rfl, .imm (.v _)⟩
    · cases hx with
      | imm hi => cases hi with
        | z => rw [go hlk]; exact ⟨_, rfl, .imm (.v _)⟩

def aUn (op : UnOp) (x : AV) : Option (Bool × AV) :=
  match op, x with
  | .neg, .v (.int k n) => some (true, .v (.int k (k.wrap (0 - n))))
  | .xor, .v (.int k n) => some (true, .v (.int k (bits .xor k (if k.signed then -1 else k.max) n)))
  | .not, .v (.bool b) => some (true, .v (.bool (!b)))
  | _, _ => none
theorem aUn_ok {P : Program} {R : Nat → Prop} {φ : Phi} {W : World} {op : UnOp} {x : AV} {v : Value} (hx : VR R φ W x v) {c : Bool} {u : AV} (ha : aUn op x = some (c, u)) :
    ∃ y, (Op.unary op v).run P W = .ok y W ∧ VR R φ W u y := by
  unfold aUn at ha
  split at ha
  · obtain ⟨rfl, rfl⟩ := Prod.mk.inj (Option.some.inj ha); rw [hx.val]; exact ⟨_, rfl, .imm (.v _)⟩
  · obtain ⟨rfl, rfl⟩ := Prod.mk.inj (Option.some.inj ha); rw [hx.val]; exact ⟨_, rfl, .imm (.v _)⟩
  · obtain ⟨rfl, rfl⟩ := Prod.mk.inj (Option.some.inj ha); rw [hx.val]; exact ⟨_, rfl, .imm (.v _)⟩
  · cases ha

def aConv (tt : List TE) (src dst : Nat) (x : AV) : Option (Bool × AV) :=
  match look tt src, look tt dst, x with
  | some _, some e, .v (.int _ n) => match e.td with
    | .int k => some (true, .v (.int k (k.wrap n)))
    | _ => none
  | _, _, _ => none
theorem look_und {P : Program} {tt : List TE} (h : TTok P tt) {t : Nat} {e : TE} (he : look tt t = some e) : ∃ d, P.underlying t = some d := by
  have hlk := (look_ok h he).1
  cases htd : e.td <;> rw [htd] at hlk <;> simp only [TD.is] at hlk
  case struct => obtain ⟨fs, h1, _⟩ := hlk; exact ⟨_, h1⟩
  case func => obtain ⟨a, b, c, h1⟩ := hlk; exact ⟨_, h1⟩
  all_goals exact ⟨_, hlk⟩
theorem aConv_ok {P : Program} {tt : List TE} (h : TTok P tt) {src dst : Nat} {R : Nat → Prop} {φ : Phi} {W : World} {x : AV} {v : Value} (hx : VR R φ W x v) {c : Bool} {u : AV} (ha : aConv tt src dst x = some (c, u)) :
    ∃ y, (convert src dst v).run P W = .ok y W ∧ VR R φ W u y := by
  unfold aConv at ha
  split at ha
  · rename_i es ed k n hs hd
    split at ha
    · rename_i kd htd
      obtain ⟨rfl, rfl⟩ := Prod.mk.inj (Option.some.inj ha)
      rw [hx.val]
      obtain ⟨d, hd'⟩ := look_und h hs
      have hlk := (look_ok h hd).1
      rw [htd] at hlk
      have hlk' : P.underlying dst = some (.int kd) := hlk
      exact ⟨.int kd (kd.wrap n), by simp [convert, run_und hd', run_und hlk', Conv.intToInt], .imm (.v _)⟩
    · cases ha
  · cases ha

def aNilCheck (x : AV) : Option (Bool × AV) :=
  match x with
  | .p l off => some (true, .p l off)
  | .q l sz i j => some (true, .q l sz i j)
  | .ip cs j => some (true, .ip cs j)
  | .f (.func g) us cs => some (true, .f (.func g) us cs)
  | _ => none

/-- The greater, or the lesser one. -/
def mm (gt : Bool) (x y : Int) : Int := match gt with | true => if y > x then y else x | false => if y < x then y else x
def aMM (gt : Bool) (xs : List AV) : Option (Bool × AV) :=
  match xs with
  | [.v (.int k a), .v (.int _ b)] => some (true, .v (.int k (mm gt a b)))
  | [.v (.int k a), .v (.int _ b), .v (.int _ c)] => some (true, .v (.int k (mm gt (mm gt a b) c)))
  | _ => none
end Go.Proofs.Ythdeehkmlaejfaa.E
/- The engine, part 8: memory that is made or written. -/
namespace Go.Proofs.Ythdeehkmlaejfaa.E
open Go
set_option linter.unusedSimpArgs false
set_option linter.unusedVariables false

/-- The cells that a value takes. -/
def cellsOf : AV → Option (List AV)
  | .a cs => some cs
  | .v x => match scal x with | true => some [.v x] | false => none
  | .t _ => none
  | .dead => none
  | u => some [u]

theorem scal_cells {x : Value} (h : scal x = true) : x.cells.toList = [x] := by cases x <;> first | rfl | cases h

/-- The values of an aggregate's cells are no aggregates: said where it matters. -/
def Flat (vs : List Value) : Prop := ∀ x ∈ vs, scal x = true

theorem cellsOf_ok {R : Nat → Prop} {φ : Phi} {W : World} {u : AV} {v : Value} (h : VR R φ W u v) {cs : List AV} (hc : cellsOf u = some cs) :
    ∃ vs, v.cells.toList = vs ∧ cs.length = vs.length ∧ ∀ (k : Nat) (w : AV) (x : Value), cs[k]? = some w → vs[k]? = some x → VR R φ W w x := by
  have one : ∀ {u : AV} {v : Value}, VR R φ W u v → scal v = true → cs = [u] → ∃ vs, v.cells.toList = vs ∧ cs.length = vs.length ∧ ∀ (k : Nat) (w : AV) (x : Value), cs[k]? = some w → vs[k]? = some x → VR R φ W w x := by
    intro u v h hs hcs
    refine ⟨[v], scal_cells hs, by rw [hcs]; rfl, fun k w x hw hx => ?_⟩
    rw [hcs] at hw
    cases k with
    | zero => simp at hw hx; subst hw hx; exact h
    | succ k => simp at hw
  cases u with
  | a cs' =>
    obtain rfl := Option.some.inj hc
    obtain ⟨vs, rfl, hl, hr⟩ := h.agg
    exact ⟨vs, by simp [Value.cells], hl, hr⟩
  | v x =>
    simp only [cellsOf] at hc
    cases hs : scal x with
    | false => simp [hs] at hc
    | true =>
      simp only [hs] at hc
      obtain rfl := Option.some.inj hc
      obtain rfl := h.val
      exact one h hs rfl
  | t _ => simp [cellsOf] at hc
  | dead => simp [cellsOf] at hc
  | p l off => obtain rfl := Option.some.inj hc; cases h with
    | imm hi => cases hi
    | p h' => exact one (.p h') rfl rfl
  | q l sz i j => obtain rfl := Option.some.inj hc; cases h with
    | imm hi => cases hi
    | q h' => exact one (.q h') rfl rfl
  | s l sz o n => obtain rfl := Option.some.inj hc; cases h with
    | imm hi => cases hi
    | nil h' => exact one (.nil h') rfl rfl
    | z h' => exact one (.z h') rfl rfl
    | s h1 h2 h3 => exact one (.s h1 h2 h3) rfl rfl
  | i sz n get => obtain rfl := Option.some.inj hc; cases h with
    | imm hi => cases hi with
      | nil => exact one (.imm (.nil _ _ _ _)) rfl rfl
      | i x hb hn hl hc hx hsc hs hm => exact one (.imm (.i x hb hn hl hc hx hsc hs hm)) rfl rfl
  | ip cs' j => obtain rfl := Option.some.inj hc; cases h with
    | imm hi => cases hi with
      | ip x hb hc hx => exact one (.imm (.ip x hb hc hx)) rfl rfl
  | z => obtain rfl := Option.some.inj hc; cases h with
    | imm hi => cases hi with
      | z a => exact one (.imm (.z a)) rfl rfl
  | f fn us cs' => obtain rfl := Option.some.inj hc; cases h with
    | imm hi => cases hi
    | f h1 h2 h3 h4 => exact one (.f h1 h2 h3 h4) rfl rfl
  | y l => obtain rfl := Option.some.inj hc; cases h with
    | imm hi => cases hi
    | y h' => exact one (.y h') rfl rfl
  | mp l => obtain rfl := Option.some.inj hc; cases h with
    | imm hi => cases hi
    | mp h' => exact one (.mp h') rfl rfl

theorem heap_alloc (W : World) (o : Obj) (b : Nat) (h : b < W.heap.size) : (W.alloc o).heap[b]? = W.heap[b]? := by
  simp only [World.alloc, Array.getElem?_push]
  rw [if_neg (by omega)]

theorem Keep.alloc (F : Nat → Nat → Prop) (W : World) (o : Obj) : Keep F W (W.alloc o) where
  os := rfl
  tape := rfl
  output := rfl
  size := by simp
  obj b hb _ := heap_alloc W o b hb
  cells b c T fr hc := by
    have hb : b < W.heap.size := (Array.getElem?_eq_some_iff.1 hc).1
    exact ⟨c, by rw [heap_alloc W o b hb]; exact hc, rfl, fun _ _ => rfl⟩
  loops b r hr := ⟨r.state, r.pending, by rw [heap_alloc W o b (Array.getElem?_eq_some_iff.1 hr).1]; exact hr⟩

theorem heap_new (W : World) (o : Obj) : (W.alloc o).heap[W.heap.size]? = some o := by simp only [World.alloc, Array.getElem?_push, if_true]

theorem Free.new (W : World) (c : Array Value) (T : TypeId) : Free (W.alloc (.cells c T)) W.heap.size := ⟨c, T, heap_new W _⟩

/-- The roots' map with one more. -/
def upd (φ : Phi) (l : Nat) (p : Option (Nat × Nat)) : Phi := fun m => if m = l then some p else φ m
theorem upd_same (φ : Phi) (l : Nat) (p : Option (Nat × Nat)) : upd φ l p l = some p := by simp [upd]
theorem upd_ext {φ : Phi} {l : Nat} (p : Option (Nat × Nat)) (h : φ l = none) : Ext φ (upd φ l p) := by
  intro m q hq
  unfold upd
  split
  · rename_i e; subst e; rw [h] at hq; cases hq
  · exact hq

theorem upd_none {φ : Phi} {l m : Nat} {p : Option (Nat × Nat)} (hm : m ≠ l) (h : φ m = none) : upd φ l p m = none := by unfold upd; rw [if_neg hm]; exact h

theorem append_get {α : Type} {l : List α} {x y : α} {m : Nat} (h : (l ++ [x])[m]? = some y) : (m = l.length ∧ y = x) ∨ (m ≠ l.length ∧ l[m]? = some y) := by
  rw [List.getElem?_append] at h
  split at h
  · rename_i hlt; exact .inr ⟨by omega, h⟩
  · rename_i hge
    by_cases hm : m = l.length
    · subst hm; simp at h; exact .inl ⟨rfl, h.symm⟩
    · rw [List.getElem?_eq_none (by simp; omega)] at h; cases h

/-- A state with a root more. -/
theorem Rel.newObj {F0 : Nat → Nat → Prop} {W0 : World} {R : Nat → Prop} {φ : Phi} {σ : St} {f : List AV} {tmps : Array Value} {W : World} (h : Rel F0 W0 R φ σ f tmps W) (o : Obj) {B : Blk}
    (hB : BlkOk R (upd φ σ.length (some (W.heap.size, 0))) (W.alloc o) σ.length B) :
    Rel F0 W0 R (upd φ σ.length (some (W.heap.size, 0))) (σ ++ [B]) f tmps (W.alloc o) := by
  have hnone : φ σ.length = none := h.sim.dom _ (Nat.le_refl _)
  refine Rel.turn h (l := σ.length) (src := σ.length) (B' := B) (G := fun _ _ => False) (Keep.alloc _ W _) (upd_ext _ hnone) (fun m hm h => upd_none hm h) (fun b k hg => hg.elim) hB (fun b k hw => ?_) (fun m B0 e => ?_) fun m hm => ?_
  · refine .inr ?_
    cases B with
    | lit cs => obtain ⟨o, e, _⟩ := hw; rw [upd_same] at e; obtain ⟨rfl, rfl⟩ := Prod.mk.inj (Option.some.inj (Option.some.inj e)); exact Nat.le_refl _
    | tab sz n get => obtain ⟨o, e⟩ := hw; rw [upd_same] at e; obtain ⟨rfl, rfl⟩ := Prod.mk.inj (Option.some.inj (Option.some.inj e)); exact Nat.le_refl _
    | lrec e => have e : upd φ σ.length (some (W.heap.size, 0)) σ.length = some (some (b, 0)) := hw; rw [upd_same] at e; obtain ⟨rfl, _⟩ := Prod.mk.inj (Option.some.inj (Option.some.inj e)); exact Nat.le_refl _
    | held => have e : upd φ σ.length (some (W.heap.size, 0)) σ.length = some (some (b, 0)) := hw; rw [upd_same] at e; obtain ⟨rfl, _⟩ := Prod.mk.inj (Option.some.inj (Option.some.inj e)); exact Nat.le_refl _
    | gone => exact hw.elim
    | free => exact hw.elim
    | tabv sz n get => obtain ⟨o, e⟩ := hw; rw [upd_same] at e; obtain ⟨rfl, rfl⟩ := Prod.mk.inj (Option.some.inj (Option.some.inj e)); exact Nat.le_refl _
    | map es c => have e : upd φ σ.length (some (W.heap.size, 0)) σ.length = some (some (b, 0)) := hw; rw [upd_same] at e; obtain ⟨rfl, _⟩ := Prod.mk.inj (Option.some.inj (Option.some.inj e)); exact Nat.le_refl _
    | iter m s seen st => have e : upd φ σ.length (some (W.heap.size, 0)) σ.length = some (some (b, 0)) := hw; rw [upd_same] at e; obtain ⟨rfl, _⟩ := Prod.mk.inj (Option.some.inj (Option.some.inj e)); exact Nat.le_refl _
  · rcases append_get e with ⟨rfl, rfl⟩ | ⟨hne, e⟩
    · exact .inl ⟨rfl, rfl⟩
    · exact .inr (.inr ⟨hne, hne, e⟩)
  · simp only [List.length_append, List.length_cons, List.length_nil] at hm
    unfold upd
    rw [if_neg (by omega)]
    exact h.sim.dom m (by omega)

theorem Rel.new {F0 : Nat → Nat → Prop} {W0 : World} {R : Nat → Prop} {φ : Phi} {σ : St} {f : List AV} {tmps : Array Value} {W : World} (h : Rel F0 W0 R φ σ f tmps W) (c : Array Value) (T : TypeId) {B : Blk}
    (hB : BlkOk R (upd φ σ.length (some (W.heap.size, 0))) (W.alloc (.cells c T)) σ.length B) :
    Rel F0 W0 R (upd φ σ.length (some (W.heap.size, 0))) (σ ++ [B]) f tmps (W.alloc (.cells c T)) := h.newObj _ hB

/-- A new root of single cells. -/
theorem Rel.newLit {F0 : Nat → Nat → Prop} {W0 : World} {R : Nat → Prop} {φ : Phi} {σ : St} {f : List AV} {tmps : Array Value} {W : World} (h : Rel F0 W0 R φ σ f tmps W) {cs : List AV} {vs : List Value} (T : TypeId)
    (hl : cs.length = vs.length) (hv : ∀ (k : Nat) (u : AV) (x : Value), cs[k]? = some u → vs[k]? = some x → VR R φ W u x) :
    Rel F0 W0 R (upd φ σ.length (some (W.heap.size, 0))) (σ ++ [.lit cs]) f tmps (W.alloc (.cells vs.toArray T)) := by
  refine h.new vs.toArray T ⟨W.heap.size, 0, upd_same _ _ _, Free.new W _ _, fun k u hu => ?_⟩
  obtain ⟨x, hx⟩ := vs_get hl hu
  refine ⟨x, by first | (rw [Nat.zero_add, World.cell?_alloc_new]; done) | (rw [Nat.zero_add, World.cell?_alloc_new]; simpa using hx), ?_⟩
  have hc : Calm R W (W.alloc (.cells vs.toArray T)) := (Keep.alloc (fun _ _ => False) W _).calm fun _ _ h => h.elim
  exact (hv k u x hu hx).mono (fun _ hb => hb) hc (Keep.alloc (fun _ _ => False) W _).room_le (upd_ext _ (h.sim.dom _ (Nat.le_refl _)))

/-- box: a variable that holds a value. -/
def aBox (x : AV) (σ : St) : Option (AV × St) :=
  match cellsOf x with
  | some cs => some (.p σ.length 0, σ ++ [.lit cs])
  | none => none
theorem aBox_ok {P : Program} {F0 : Nat → Nat → Prop} {W0 : World} {R : Nat → Prop} {φ : Phi} {σ : St} {f : List AV} {tmps : Array Value} {W : World} (h : Rel F0 W0 R φ σ f tmps W) {x : AV} {v : Value} (hx : VR R φ W x v)
    {u : AV} {σ' : St} (ha : aBox x σ = some (u, σ')) (T : TypeId) : ∃ y W' φ', (Instr.box T v).run P W = .ok y W' ∧ Ext φ φ' ∧ Rel F0 W0 R φ' σ' f tmps W' ∧ VR R φ' W' u y := by
  unfold aBox at ha
  cases hc : cellsOf x with
  | none => simp [hc] at ha
  | some cs =>
    simp only [hc, Option.some.injEq, Prod.mk.injEq] at ha
    obtain ⟨rfl, rfl⟩ := ha
    obtain ⟨vs, hvs, hl, hr⟩ := cellsOf_ok hx hc
    have hv : v.cells = vs.toArray := by rw [← hvs]
    refine ⟨.pointer (some ⟨W.heap.size, 0, none⟩), W.alloc (.cells vs.toArray T), upd φ σ.length (some (W.heap.size, 0)), ?_, upd_ext _ (h.sim.dom _ (Nat.le_refl _)), h.newLit T hl hr, ?_⟩
    · unfold Instr.box newVar newRow newObj
      simp [Sem.run, hv]
    · exact .p (b := W.heap.size) (o := 0) (upd_same _ _ _)

/-- alloc: a variable at its zero value. An array's is a row. -/
def aAlloc (tt : List TE) (t : Nat) (σ : St) : Option (AV × St) :=
  match look tt t with
  | none => none
  | some e =>
    match e.td with
    | .array n el => match look tt el with
      | none => none
      | some ee => match Nat.beq e.zero.length (n * ee.size), Nat.ble 1 ee.size, Nat.ble e.zero.length 4096, e.zero.all scal with
        | true, true, true, true => some (.p σ.length 0, σ ++ [.tab ee.size n fun k => ((e.zero.drop (k * ee.size)).take ee.size).map .v])
        | _, _, _, _ => none
    | _ => some (.p σ.length 0, σ ++ [.lit (e.zero.map .v)])

theorem aAlloc_ok {P : Program} {tt : List TE} (ht : TTok P tt) {F0 : Nat → Nat → Prop} {W0 : World} {R : Nat → Prop} {φ : Phi} {σ : St} {f : List AV} {tmps : Array Value} {W : World} (h : Rel F0 W0 R φ σ f tmps W)
    {t : Nat} {u : AV} {σ' : St} (ha : aAlloc tt t σ = some (u, σ')) : ∃ y W' φ', (Instr.alloc t true (.tuple #[])).run P W = .ok y W' ∧ Ext φ φ' ∧ Rel F0 W0 R φ' σ' f tmps W' ∧ VR R φ' W' u y := by
  unfold aAlloc at ha
  cases he : look tt t with
  | none => simp [he] at ha
  | some e =>
    simp only [he] at ha
    obtain ⟨z, hz, hzc⟩ := run_zeroValue ht he W
    have hv : z.cells = e.zero.toArray := by rw [← hzc]
    have hrun : (Instr.alloc t true (.tuple #[])).run P W = .ok (.pointer (some ⟨W.heap.size, 0, none⟩)) (W.alloc (.cells e.zero.toArray t)) := by
      unfold Instr.alloc
      simp only [Sem.run_bind, hz, Result.andThen_ok]
      unfold newVar newRow newObj
      simp [Sem.run, hv]
    have lit : ∃ y W' φ', (Instr.alloc t true (.tuple #[])).run P W = .ok y W' ∧ Ext φ φ' ∧ Rel F0 W0 R φ' (σ ++ [.lit (e.zero.map .v)]) f tmps W' ∧ VR R φ' W' (.p σ.length 0) y := by
      refine ⟨_, _, upd φ σ.length (some (W.heap.size, 0)), hrun, upd_ext _ (h.sim.dom _ (Nat.le_refl _)), ?_, .p (b := W.heap.size) (o := 0) (upd_same _ _ _)⟩
      have := h.newLit (cs := e.zero.map .v) (vs := e.zero) t (by simp) fun k u x hu hx => by
        obtain ⟨y, hy, rfl⟩ := getElem?_map_some hu
        rw [hy] at hx; obtain rfl := Option.some.inj hx; exact .imm (.v _)
      exact this
    split at ha
    · rename_i n el htd
      cases hee : look tt el with
      | none => simp [hee] at ha
      | some ee =>
        simp only [hee] at ha
        split at ha
        · rename_i h1 h2 h3 h4
          simp only [Option.some.injEq, Prod.mk.injEq] at ha
          obtain ⟨rfl, rfl⟩ := ha
          have h1 := Nat.eq_of_beq_eq_true h1
          have h2 := Nat.le_of_ble_eq_true h2
          have h3 := Nat.le_of_ble_eq_true h3
          refine ⟨_, _, upd φ σ.length (some (W.heap.size, 0)), hrun, upd_ext _ (h.sim.dom _ (Nat.le_refl _)), h.new e.zero.toArray t ?_, .p (b := W.heap.size) (o := 0) (upd_same _ _ _)⟩
          refine ⟨by omega, by omega, fun k hk => ?_, .inr ⟨W.heap.size, 0, upd_same _ _ _, Free.new W _ _, fun k j u hk hu => ?_⟩⟩
          · have : (k + 1) * ee.size ≤ n * ee.size := Nat.mul_le_mul_right _ hk
            rw [Nat.succ_mul] at this
            simp; omega
          · obtain ⟨y, hy, rfl⟩ := getElem?_map_some hu
            rw [List.getElem?_take] at hy
            split at hy
            · rw [List.getElem?_drop] at hy
              exact ⟨y, by first | (rw [Nat.zero_add, World.cell?_alloc_new]; done) | (rw [Nat.zero_add, World.cell?_alloc_new]; simpa using hy), .v _, List.all_eq_true.1 h4 _ (List.mem_of_getElem? hy)⟩
            · cases hy
        · cases ha
    · simp only [Option.some.injEq, Prod.mk.injEq] at ha
      obtain ⟨rfl, rfl⟩ := ha
      exact lit
end Go.Proofs.Ythdeehkmlaejfaa.E
/- The engine, part 9: cells that are written. -/
namespace Go.Proofs.Ythdeehkmlaejfaa.E
open Go
set_option linter.unusedSimpArgs false
set_option linter.unusedVariables false

def okCell : AV → Bool
  | .v x => scal x
  | .p _ _ => true
  | .q _ _ _ _ => true
  | .s _ _ _ _ => true
  | .i _ _ _ => true
  | .ip _ _ => true
  | .f _ _ _ => true
  | .y _ => true
  | .mp _ => true
  | .z => true
  | _ => false
def pureCell : AV → Bool
  | .v x => scal x
  | .i _ _ _ => true
  | .ip _ _ => true
  | .z => true
  | _ => false

theorem okCell_ok {R : Nat → Prop} {φ : Phi} {W : World} {u : AV} {x : Value} (h : VR R φ W u x) (ho : okCell u = true) : scal x = true := by
  cases h with
  | imm hi => cases hi <;> first | rfl | exact ho | cases ho
  | a => cases ho
  | t => cases ho
  | dead => cases ho
  | _ => rfl
theorem pureCell_ok {R : Nat → Prop} {φ : Phi} {W : World} {u : AV} {x : Value} (h : VR R φ W u x) (ho : pureCell u = true) : CR R W u x := by
  cases h with
  | imm hi => exact ⟨hi, by cases hi <;> first | rfl | exact ho | cases ho⟩
  | _ => cases ho

theorem Keep.setCell {W : World} {b o : Nat} (v : Value) : Keep (fun b' k' => b' = b ∧ k' = o) W (W.setCell ⟨b, o, none⟩ v) where
  os := rfl
  tape := rfl
  output := rfl
  size := by simp
  obj b' hb hn := by
    have : b ≠ b' := fun e => hn o ⟨e.symm, rfl⟩
    simp only [World.setCell, Array.getElem?_modify]
    rw [if_neg this]
  cells b' c T fr hc := by
    by_cases hb : b = b'
    · subst hb
      refine ⟨c.setIfInBounds o v, by simp [World.setCell, Array.getElem?_modify, hc], by simp, fun k hk => ?_⟩
      have : o ≠ k := fun e => hk ⟨rfl, e.symm⟩
      rw [Array.getElem?_setIfInBounds_ne this]
    · refine ⟨c, ?_, rfl, fun _ _ => rfl⟩
      simp only [World.setCell, Array.getElem?_modify]
      rw [if_neg hb]; exact hc
  loops b' r hr := by
    refine ⟨r.state, r.pending, ?_⟩
    simp only [World.setCell, Array.getElem?_modify, hr]
    split <;> rfl

theorem run_store {P : Program} {W : World} {b o : Nat} {x v : Value} (hs : scal v = true) (hc : W.cell? ⟨b, o, none⟩ = some x) (hf : Free W b) : (store ⟨b, o, none⟩ v).run P W = .ok () (W.setCell ⟨b, o, none⟩ v) := by
  have hz := hf.frozen o
  cases v <;> first | (simp only [store, Sem.run, hc, hz]; rfl) | (simp [scal] at hs)

theorem run_storeCells {P : Program} {b o : Nat} : ∀ (vs : List Value) (i : Nat) (W : World), (∀ x ∈ vs, scal x = true) → (∀ k, k < vs.length → ∃ x, W.cell? ⟨b, o + (i + k), none⟩ = some x) → Free W b →
    ∃ W', (storeCells ⟨b, o, none⟩ vs i).run P W = .ok () W' ∧ Keep (fun b' k' => b' = b ∧ o + i ≤ k' ∧ k' < o + i + vs.length) W W' ∧ ∀ (k : Nat) (x : Value), vs[k]? = some x → W'.cell? ⟨b, o + (i + k), none⟩ = some x := by
  intro vs
  induction vs with
  | nil => intro i W _ _ _; exact ⟨W, by simp [storeCells], Keep.refl _ _, fun k x hx => by simp at hx⟩
  | cons v vs ih =>
    intro i W hs hc hf
    obtain ⟨x0, hx0⟩ := hc 0 (by simp)
    have k0 : Keep (fun b' k' => b' = b ∧ k' = o + (i + 0)) W (W.setCell ⟨b, o + (i + 0), none⟩ v) := Keep.setCell v
    obtain ⟨W', h1, h2, h3⟩ := ih (i + 1) (W.setCell ⟨b, o + (i + 0), none⟩ v) (fun x hx => hs x (List.mem_cons_of_mem _ hx)) (fun k hk => by
      obtain ⟨x, hx⟩ := hc (k + 1) (by simpa using hk)
      exact ⟨x, k0.cell (by rintro ⟨_, e⟩; omega) (by rw [show o + (i + 1 + k) = o + (i + (k + 1)) by omega]; exact hx)⟩) (hf.keep k0)
    refine ⟨W', ?_, ?_, ?_⟩
    · simp only [storeCells, Sem.run_bind, add_none]
      rw [show o + i = o + (i + 0) by omega, run_store (hs v (List.mem_cons_self)) hx0 hf]
      exact h1
    · refine (k0.mono (G := fun b' k' => b' = b ∧ o + i ≤ k' ∧ k' < o + i + (v :: vs).length) ?_).trans h2 ?_
      · rintro b' k' ⟨rfl, rfl⟩; exact ⟨rfl, by omega, by simp⟩
      · rintro b' k' ⟨rfl, e1, e2⟩; exact .inl ⟨rfl, by omega, by simp; omega⟩
    · intro k x hx
      cases k with
      | zero =>
        simp at hx; subst hx
        exact h2.cell (by rintro ⟨_, e1, _⟩; omega) (World.cell?_setCell_same (h := hx0) ..)
      | succ k =>
        have := h3 k x (by simpa using hx)
        rw [show o + (i + (k + 1)) = o + (i + 1 + k) by omega]; exact this

/-- A cell is written, or some side by side. -/
def putCells (cells : List AV) (off : Nat) (cs : List AV) : List AV := cells.take off ++ cs ++ cells.drop (off + cs.length)
theorem putCells_length {cells cs : List AV} {off : Nat} (h : off + cs.length ≤ cells.length) : (putCells cells off cs).length = cells.length := by simp [putCells]; omega
theorem putCells_get {cells cs : List AV} {off : Nat} (h : off + cs.length ≤ cells.length) (k : Nat) : (putCells cells off cs)[k]? = if off ≤ k ∧ k < off + cs.length then cs[k - off]? else cells[k]? := by
  unfold putCells
  rw [List.append_assoc, List.getElem?_append, List.getElem?_append]
  have e1 : (cells.take off).length = off := by simp; omega
  rw [e1]
  by_cases h1 : k < off
  · rw [if_pos h1, if_neg (by omega), List.getElem?_take, if_pos h1]
  · rw [if_neg h1]
    by_cases h2 : k - off < cs.length
    · rw [if_pos h2, if_pos (by omega)]
    · rw [if_neg h2, if_neg (by omega), List.getElem?_drop]
      congr 1; omega

/-- The elements of cells that stand in a row. -/
def cut (sz : Nat) (cs : List AV) : Nat → List AV := fun k => (cs.drop (k * sz)).take sz

theorem cut_len {sz n : Nat} {cs : List AV} (h : cs.length = n * sz) : ∀ k, k < n → (cut sz cs k).length = sz := by
  intro k hk
  have : (k + 1) * sz ≤ n * sz := Nat.mul_le_mul_right _ hk
  rw [Nat.succ_mul] at this
  simp [cut]; omega
theorem cut_get {sz : Nat} {cs : List AV} {k j : Nat} {u : AV} (h : (cut sz cs k)[j]? = some u) : cs[k * sz + j]? = some u := by
  unfold cut at h
  rw [List.getElem?_take] at h
  split at h
  · rw [List.getElem?_drop] at h; exact h
  · cases h

def aStore0 (tt : List TE) (t : Nat) (x y : AV) (σ : St) : Option (Bool × St) :=
  match look tt t, cellsOf y with
  | some e, some cs =>
    match Nat.beq cs.length e.size with
    | false => none
    | true =>
      match x with
      | .p l off => match σ[l]? with
        | some (.lit cells) => match cs.all okCell, Nat.ble (off + cs.length) cells.length with
          | true, true => some (true, σ.set l (.lit (putCells cells off cs)))
          | _, _ => none
        | some (.tab sz n get) => match cs.all pureCell, Nat.beq off 0, Nat.beq cs.length (n * sz) with
          | true, true, true => some (true, σ.set l (.tab sz n (cut sz cs)))
          | _, _, _ => none
        | _ => none
      | .q l sz i j => match σ[l]? with
        | some (.tab sz' n get) => match cs.all pureCell, Nat.beq sz sz', Nat.ble (j + cs.length) sz with
          | true, true, true => some (decide (i < n), σ.set l (.tab sz n fun k => if k = i then putCells (get k) j cs else get k))
          | _, _, _ => none
        | _ => none
      | _ => none
  | _, _ => none

theorem set_get {α : Type} {l : List α} {i m : Nat} {x y : α} (h : (l.set i x)[m]? = some y) (hm : m ≠ i) : l[m]? = some y := by
  rwa [List.getElem?_set_ne (Ne.symm hm)] at h
theorem set_get_self {α : Type} {l : List α} {i : Nat} {x y : α} (h : (l.set i x)[i]? = some y) : y = x := by
  rw [List.getElem?_set] at h
  simp at h
  exact h.2.symm

theorem aStore0_ok {P : Program} {tt : List TE} (ht : TTok P tt) {F0 : Nat → Nat → Prop} {W0 : World} {R : Nat → Prop} {φ : Phi} {σ : St} {f : List AV} {tmps : Array Value} {W : World} (h : Rel F0 W0 R φ σ f tmps W)
    {t : Nat} {x y : AV} {v w : Value} (hx : VR R φ W x v) (hy : VR R φ W y w) {c : Bool} {σ' : St} (ha : aStore0 tt t x y σ = some (c, σ')) (hc : c = true) :
    ∃ W', (Instr.storeAt t v w).run P W = .ok () W' ∧ Rel F0 W0 R φ σ' f tmps W' := by
  unfold aStore0 at ha
  split at ha
  · rename_i e cs he hcs
    cases hsz : Nat.beq cs.length e.size with
    | false => simp [hsz] at ha
    | true =>
      simp only [hsz] at ha
      have hsz := Nat.eq_of_beq_eq_true hsz
      obtain ⟨vs, hvs, hl, hr⟩ := cellsOf_ok hy hcs
      have hrun : ∀ (b o : Nat) (W' : World), (storeCells ⟨b, o, none⟩ vs).run P W = .ok () W' → (Instr.storeAt t (.pointer (some ⟨b, o, none⟩)) w).run P W = .ok () W' := by
        intro b o W' h1
        unfold Instr.storeAt storeVar
        have : w.cells.size = e.size := by rw [← hsz, hl, ← hvs]; simp
        simp only [Instr.sureAddr, Sem.run_bind, Sem.run_pure, Result.andThen_ok, run_sizeOf ht he, this, ne_eq, not_true_eq_false, if_false, hvs]
        exact h1
      split at ha
      · rename_i l off
        split at ha
        · rename_i cells hl0
          split at ha
          · rename_i hall hle
            obtain ⟨rfl, rfl⟩ := Prod.mk.inj (Option.some.inj ha)
            have hle := Nat.le_of_ble_eq_true hle
            have hb := h.sim.blk l _ hl0
            cases hx with
            | imm hi => cases hi
            | p hφ =>
              rename_i b o
              obtain ⟨b', o', e2, hfree, hcell⟩ := hb
              rw [hφ] at e2; obtain ⟨rfl, rfl⟩ := Prod.mk.inj (Option.some.inj (Option.some.inj e2))
              have hscal : ∀ x ∈ vs, scal x = true := by
                intro x hx
                obtain ⟨k, hk⟩ := List.getElem?_of_mem hx
                have hk' : k < cs.length := by
                  rcases Nat.lt_or_ge k cs.length with h1 | h1
                  · exact h1
                  · rw [List.getElem?_eq_none (by omega)] at hk; cases hk
                exact okCell_ok (hr k _ x (List.getElem?_eq_getElem hk') hk) (List.all_eq_true.1 hall _ (List.getElem_mem hk'))
              obtain ⟨W', h1, h2, h3⟩ := run_storeCells (P := P) (b := b) (o := o + off) vs 0 W hscal (fun k hk => by
                have hk' : off + k < cells.length := by omega
                obtain ⟨x, hx, _⟩ := hcell (off + k) _ (List.getElem?_eq_getElem hk')
                exact ⟨x, by rw [show o + off + (0 + k) = o + (off + k) by omega]; exact hx⟩) hfree
              refine ⟨W', hrun b (o + off) W' h1, ?_⟩
              have hcalm := h2.calm (R := R) (fun b' k' hg hR => by
                obtain ⟨rfl, g1, g2⟩ := hg
                exact h.sim.ro l _ hl0 b' k' ⟨o, hφ, by omega, by omega⟩ hR)
              have := Rel.turn h (l := l) (src := l) (B' := .lit (putCells cells off cs)) (σ' := σ.set l (.lit (putCells cells off cs))) h2 (Ext.refl _) (fun _ _ h => h)
                (fun b' k' hg => ⟨_, hl0, by obtain ⟨rfl, g1, g2⟩ := hg; exact ⟨o, hφ, by omega, by omega⟩⟩)
                ⟨b, o, hφ, hfree.keep h2, fun k u hu => by
                  rw [putCells_get hle] at hu
                  split at hu
                  · rename_i hk
                    obtain ⟨x, hx⟩ := vs_get hl hu
                    refine ⟨x, ?_, (hr _ u x hu hx).mono (fun _ hb => hb) hcalm h2.room_le (Ext.refl _)⟩
                    have := h3 _ x hx
                    rw [show o + k = o + off + (0 + (k - off)) by omega]; exact this
                  · rename_i hk
                    obtain ⟨x, hx, hv⟩ := hcell k u hu
                    refine ⟨x, h2.cell (by rintro ⟨_, g1, g2⟩; omega) hx, hv.mono (fun _ hb => hb) hcalm h2.room_le (Ext.refl _)⟩⟩
                (fun b' k' hw => .inl ⟨_, hl0, by obtain ⟨o', g1, g2, g3⟩ := hw; rw [putCells_length hle] at g3; exact ⟨o', g1, g2, g3⟩⟩)
                (fun m B hm => by
                  by_cases hne : m = l
                  · subst hne; exact .inl ⟨rfl, set_get_self hm⟩
                  · exact .inr (.inr ⟨hne, hne, set_get hm hne⟩)) (fun m hm => h.sim.dom m (by simpa using hm))
              exact this
          · cases ha
        · rename_i sz n get hl0
          split at ha
          · rename_i hall h0 hlen'
            obtain ⟨rfl, rfl⟩ := Prod.mk.inj (Option.some.inj ha)
            obtain rfl := Nat.eq_of_beq_eq_true h0
            have hlen' := Nat.eq_of_beq_eq_true hlen'
            have hb := h.sim.blk l _ hl0
            cases hx with
            | imm hi => cases hi
            | p hφ =>
              rename_i b o
              obtain ⟨hz0, hm, hlen, hb⟩ := hb
              rcases hb with ⟨e2, _⟩ | ⟨b', o', e2, hfree, hcell⟩
              · rw [hφ] at e2; cases e2
              rw [hφ] at e2; obtain ⟨rfl, rfl⟩ := Prod.mk.inj (Option.some.inj (Option.some.inj e2))
              have hscal : ∀ (k : Nat) (u : AV) (x : Value), cs[k]? = some u → vs[k]? = some x → CR R W u x := fun k u x hu hx =>
                pureCell_ok (hr k u x hu hx) (List.all_eq_true.1 hall _ (List.mem_of_getElem? hu))
              obtain ⟨W', h1, h2, h3⟩ := run_storeCells (P := P) (b := b) (o := o + 0) vs 0 W (fun x hx => by
                obtain ⟨k, hk⟩ := List.getElem?_of_mem hx
                have hk' : k < cs.length := by
                  rcases Nat.lt_or_ge k cs.length with h1 | h1
                  · exact h1
                  · rw [List.getElem?_eq_none (by omega)] at hk; cases hk
                exact (hscal k _ x (List.getElem?_eq_getElem hk') hk).2) (fun k hk => by
                have hk1 : k < n * sz := by omega
                have hq : k / sz < n := (Nat.div_lt_iff_lt_mul hz0).2 hk1
                have hj : k % sz < (get (k / sz)).length := by rw [hlen _ hq]; exact Nat.mod_lt _ hz0
                obtain ⟨x, hx, _⟩ := hcell (k / sz) (k % sz) _ hq (List.getElem?_eq_getElem hj)
                have e : k / sz * sz + k % sz = k := by rw [Nat.mul_comm]; exact Nat.div_add_mod k sz
                rw [e] at hx
                exact ⟨x, by rw [show o + 0 + (0 + k) = o + k by omega]; exact hx⟩) hfree
              refine ⟨W', hrun b _ W' h1, ?_⟩
              have hcalm := h2.calm (R := R) (fun b' k' hg hR => by
                obtain ⟨rfl, g1, g2⟩ := hg
                exact h.sim.ro l _ hl0 b' k' ⟨o, hφ⟩ hR)
              exact Rel.turn h (l := l) (src := l) (B' := .tab sz n (cut sz cs)) (σ' := σ.set l (.tab sz n (cut sz cs))) h2 (Ext.refl _) (fun _ _ h => h)
                (fun b' k' hg => ⟨_, hl0, by obtain ⟨rfl, g1, g2⟩ := hg; exact ⟨o, hφ⟩⟩)
                ⟨hz0, hm, fun k hk => cut_len hlen' k hk, .inr ⟨b, o, hφ, hfree.keep h2, fun k j' u hk hu => by
                  have hu' := cut_get hu
                  obtain ⟨x, hx⟩ := vs_get hl hu'
                  refine ⟨x, ?_, (hscal _ u x hu' hx).mono (fun _ hb => hb) hcalm⟩
                  have := h3 _ x hx
                  rw [show o + (k * sz + j') = o + 0 + (0 + (k * sz + j')) by omega]; exact this⟩⟩
                (fun b' k' hw => .inl ⟨_, hl0, hw⟩)
                (fun m B hm => by
                  by_cases hne : m = l
                  · subst hne; exact .inl ⟨rfl, set_get_self hm⟩
                  · exact .inr (.inr ⟨hne, hne, set_get hm hne⟩)) (fun m hm => h.sim.dom m (by simpa using hm))
          · cases ha
        · cases ha
      · rename_i l sz i j
        split at ha
        · rename_i sz' n get hl0
          split at ha
          · rename_i hall hz hle
            obtain ⟨rfl, rfl⟩ := Prod.mk.inj (Option.some.inj ha)
            obtain rfl := Nat.eq_of_beq_eq_true hz
            have hle := Nat.le_of_ble_eq_true hle
            have hi : i < n := of_decide_eq_true hc
            have hb := h.sim.blk l _ hl0
            cases hx with
            | imm hi => cases hi
            | q hφ =>
              rename_i b o
              obtain ⟨hz0, hm, hlen, hb⟩ := hb
              rcases hb with ⟨e2, _⟩ | ⟨b', o', e2, hfree, hcell⟩
              · rw [hφ] at e2; cases e2
              rw [hφ] at e2; obtain ⟨rfl, rfl⟩ := Prod.mk.inj (Option.some.inj (Option.some.inj e2))
              have hleg : j + cs.length ≤ (get i).length := by rw [hlen i hi]; exact hle
              have hscal : ∀ (k : Nat) (u : AV) (x : Value), cs[k]? = some u → vs[k]? = some x → CR R W u x := fun k u x hu hx =>
                pureCell_ok (hr k u x hu hx) (List.all_eq_true.1 hall _ (List.mem_of_getElem? hu))
              obtain ⟨W', h1, h2, h3⟩ := run_storeCells (P := P) (b := b) (o := o + (i * sz + j)) vs 0 W (fun x hx => by
                obtain ⟨k, hk⟩ := List.getElem?_of_mem hx
                have hk' : k < cs.length := by
                  rcases Nat.lt_or_ge k cs.length with h1 | h1
                  · exact h1
                  · rw [List.getElem?_eq_none (by omega)] at hk; cases hk
                exact (hscal k _ x (List.getElem?_eq_getElem hk') hk).2) (fun k hk => by
                have hk' : j + k < (get i).length := by omega
                obtain ⟨x, hx, _⟩ := hcell i (j + k) _ hi (List.getElem?_eq_getElem hk')
                exact ⟨x, by rw [show o + (i * sz + j) + (0 + k) = o + (i * sz + (j + k)) by omega]; exact hx⟩) hfree
              refine ⟨W', hrun b _ W' h1, ?_⟩
              have hcalm := h2.calm (R := R) (fun b' k' hg hR => by
                obtain ⟨rfl, g1, g2⟩ := hg
                exact h.sim.ro l _ hl0 b' k' ⟨o, hφ⟩ hR)
              have := Rel.turn h (l := l) (src := l) (B' := .tab sz n fun k => if k = i then putCells (get k) j cs else get k) (σ' := σ.set l (.tab sz n fun k => if k = i then putCells (get k) j cs else get k)) h2 (Ext.refl _) (fun _ _ h => h)
                (fun b' k' hg => ⟨_, hl0, by obtain ⟨rfl, g1, g2⟩ := hg; exact ⟨o, hφ⟩⟩)
                ⟨hz0, hm, fun k hk => by
                  dsimp only
                  split
                  · rename_i e; subst e; rw [putCells_length hleg]; exact hlen k hk
                  · exact hlen k hk, .inr ⟨b, o, hφ, hfree.keep h2, fun k j' u hk hu => by
                  have other : (get k)[j']? = some u → ¬ (k = i ∧ j ≤ j' ∧ j' < j + cs.length) → ∃ x, W'.cell? ⟨b, o + (k * sz + j'), none⟩ = some x ∧ CR R W' u x := by
                    intro hu hnot
                    obtain ⟨x, hx, hv⟩ := hcell k j' u hk hu
                    have hj' : j' < sz := by
                      rcases Nat.lt_or_ge j' (get k).length with h1 | h1
                      · rw [hlen k hk] at h1; exact h1
                      · rw [List.getElem?_eq_none h1] at hu; cases hu
                    refine ⟨x, h2.cell ?_ hx, hv.mono (fun _ hb => hb) hcalm⟩
                    rintro ⟨_, g1, g2⟩
                    rcases Nat.lt_trichotomy k i with hki | rfl | hki
                    · have : (k + 1) * sz ≤ i * sz := Nat.mul_le_mul_right _ hki
                      rw [Nat.succ_mul] at this; omega
                    · exact hnot ⟨rfl, by omega, by omega⟩
                    · have : (i + 1) * sz ≤ k * sz := Nat.mul_le_mul_right _ hki
                      rw [Nat.succ_mul] at this; omega
                  simp only at hu
                  split at hu
                  · rename_i e; subst e
                    rw [putCells_get hleg] at hu
                    split at hu
                    · rename_i hk2
                      obtain ⟨x, hx⟩ := vs_get hl hu
                      refine ⟨x, ?_, (hscal _ u x hu hx).mono (fun _ hb => hb) hcalm⟩
                      have := h3 _ x hx
                      rw [show o + (k * sz + j') = o + (k * sz + j) + (0 + (j' - j)) by omega]; exact this
                    · rename_i hk2
                      exact other hu (by rintro ⟨_, g1, g2⟩; exact hk2 ⟨g1, g2⟩)
                  · rename_i hne
                    exact other hu (by rintro ⟨e, _⟩; exact hne e)⟩⟩
                (fun b' k' hw => .inl ⟨_, hl0, hw⟩)
                (fun m B hm => by
                  by_cases hne : m = l
                  · subst hne; exact .inl ⟨rfl, set_get_self hm⟩
                  · exact .inr (.inr ⟨hne, hne, set_get hm hne⟩)) (fun m hm => h.sim.dom m (by simpa using hm))
              exact this
          · cases ha
        · cases ha
      · cases ha
  · cases ha
/-- A store, also by a pointer to an element of a row of single cells. -/
def aStore (tt : List TE) (t : Nat) (x y : AV) (σ : St) : Option (Bool × St) :=
  match x with
  | .q l sz i j => match σ[l]? with
    | some (.lit _) => aStore0 tt t (.p l (i * sz + j)) y σ
    | _ => aStore0 tt t (.q l sz i j) y σ
  | x => aStore0 tt t x y σ
theorem aStore_ok {P : Program} {tt : List TE} (ht : TTok P tt) {F0 : Nat → Nat → Prop} {W0 : World} {R : Nat → Prop} {φ : Phi} {σ : St} {f : List AV} {tmps : Array Value} {W : World} (h : Rel F0 W0 R φ σ f tmps W)
    {t : Nat} {x y : AV} {v w : Value} (hx : VR R φ W x v) (hy : VR R φ W y w) {c : Bool} {σ' : St} (ha : aStore tt t x y σ = some (c, σ')) (hc : c = true) :
    ∃ W', (Instr.storeAt t v w).run P W = .ok () W' ∧ Rel F0 W0 R φ σ' f tmps W' := by
  unfold aStore at ha
  split at ha
  · split at ha
    · refine aStore0_ok ht h ?_ hy ha hc
      cases hx with
      | imm hi => cases hi
      | q hφ => exact .p hφ
    · exact aStore0_ok ht h hx hy ha hc
  · exact aStore0_ok ht h hx hy ha hc
end Go.Proofs.Ythdeehkmlaejfaa.E
/- The engine, part 10: append. -/
namespace Go.Proofs.Ythdeehkmlaejfaa.E
open Go
set_option linter.unusedSimpArgs false
set_option linter.unusedVariables false

/-- A slice's elements as they are now: a condition, how many cells each has, how many they are, and they. -/
def rowOf (sz : Nat) (x : AV) (σ : St) : Option (Bool × Nat × (Nat → List AV)) :=
  match x with
  | .s l sz' o n => match σ[l]? with
    | some (.tab sz'' N get) => match Nat.beq sz sz', Nat.beq sz sz'' with
      | true, true => some (Nat.ble (o + n) N, n, fun k => get (o + k))
      | _, _ => none
    | _ => none
  | .i sz' n get => match Nat.beq sz sz' with
    | true => some (true, n, get)
    | false => none
  | .v (.slice none 0 0) => some (true, 0, fun _ => [])
  | .z => some (true, 0, fun _ => [])
  | _ => none

theorem rowOf_ok {R : Nat → Prop} {φ : Phi} {σ : St} {W : World} (hs : Sim R φ σ W) {sz : Nat} (h0 : 0 < sz) {x : AV} {v : Value} (hx : VR R φ W x v) {c : Bool} {n : Nat} {get : Nat → List AV} (h : rowOf sz x σ = some (c, n, get)) (hc : c = true) :
    (∀ k, k < n → (get k).length = sz) ∧ n * sz < 281474976710656 ∧ ∃ A cap, v = .slice A n cap ∧ (n = 0 ∨ ∃ b o, A = some ⟨b, o, none⟩ ∧ ∀ (k j : Nat) (u : AV), k < n → (get k)[j]? = some u → ∃ y, W.cell? ⟨b, o + (k * sz + j), none⟩ = some y ∧ CR R W u y) := by
  cases x with
  | s l sz' o m =>
    simp only [rowOf] at h
    split at h
    · rename_i sz'' N g hl
      split at h
      · rename_i h1 h2
        obtain ⟨rfl, hh⟩ := Prod.mk.inj (Option.some.inj h)
        obtain ⟨rfl, rfl⟩ := Prod.mk.inj hh
        obtain rfl := Nat.eq_of_beq_eq_true h1
        obtain rfl := Nat.eq_of_beq_eq_true h2
        have hle := Nat.le_of_ble_eq_true hc
        obtain ⟨z0, hm, hlen, hb⟩ := hs.blk l _ hl
        refine ⟨fun k hk => hlen _ (by omega), Nat.lt_of_le_of_lt (Nat.mul_le_mul_right _ (by omega)) hm, ?_⟩
        cases hx with
        | imm hi => cases hi
        | nil hφ => exact ⟨_, 0, rfl, .inl rfl⟩
        | z hφ => exact ⟨_, 0, rfl, .inl rfl⟩
        | s hφ hn hr =>
          rename_i b f cap
          refine ⟨_, cap, rfl, .inr ⟨_, _, rfl, fun k j u hk hu => ?_⟩⟩
          rcases hb with ⟨e2, _⟩ | ⟨b', o', e2, _, hcell⟩
          · rw [hφ] at e2; cases e2
          · rw [hφ] at e2; obtain ⟨rfl, rfl⟩ := Prod.mk.inj (Option.some.inj (Option.some.inj e2))
            obtain ⟨y, hy, hv⟩ := hcell (o + k) j u (by omega) hu
            exact ⟨y, by rw [show f + o * sz + (k * sz + j) = f + ((o + k) * sz + j) by rw [Nat.add_mul]; omega]; exact hy, hv⟩
      · cases h
    · cases h
  | i sz' m g =>
    simp only [rowOf] at h
    cases hz : Nat.beq sz sz' with
    | false => simp [hz] at h
    | true =>
      simp only [hz] at h
      obtain ⟨rfl, hh⟩ := Prod.mk.inj (Option.some.inj h)
      obtain ⟨rfl, rfl⟩ := Prod.mk.inj hh
      obtain rfl := Nat.eq_of_beq_eq_true hz
      cases hx with
      | imm hi => cases hi with
        | nil => exact ⟨fun k hk => by omega, by omega, _, _, rfl, .inl rfl⟩
        | i xs hb hn hl hcell hv hsc hs' hm => exact ⟨hl, hm, _, _, rfl, .inr ⟨_, _, rfl, fun k j u hk hu => ⟨_, hcell k j u hk hu, hv k j u hk hu, hsc k j u hk hu⟩⟩⟩
  | v z =>
    cases z with
    | slice A len cap =>
      cases A with
      | none =>
        cases len with
        | zero =>
          cases cap with
          | succ n => simp [rowOf] at h
          | zero =>
          simp only [rowOf] at h
          obtain ⟨rfl, hh⟩ := Prod.mk.inj (Option.some.inj h)
          obtain ⟨rfl, rfl⟩ := Prod.mk.inj hh
          rw [hx.val]
          exact ⟨fun k hk => by omega, by omega, _, _, rfl, .inl rfl⟩
        | succ n => simp [rowOf] at h
      | some a => simp [rowOf] at h
    | _ => simp [rowOf] at h
  | z =>
    simp only [rowOf] at h
    obtain ⟨rfl, hh⟩ := Prod.mk.inj (Option.some.inj h)
    obtain ⟨rfl, rfl⟩ := Prod.mk.inj hh
    cases hx with
    | imm hi => cases hi with
      | z a => exact ⟨fun k hk => by omega, by omega, _, _, rfl, .inl rfl⟩
  | _ => simp [rowOf] at h

/-- Rows of values. -/
theorem row_values {W : World} {R : Nat → Prop} {sz n b o : Nat} {get : Nat → List AV} (hl : ∀ k, k < n → (get k).length = sz)
    (h : ∀ (k j : Nat) (u : AV), k < n → (get k)[j]? = some u → ∃ y, W.cell? ⟨b, o + (k * sz + j), none⟩ = some y ∧ CR R W u y) :
    ∃ xs : List Value, xs.length = n * sz ∧ (∀ (m : Nat) (x : Value), xs[m]? = some x → W.cell? ⟨b, o + m, none⟩ = some x) ∧ ∀ (k j : Nat) (u : AV), k < n → (get k)[j]? = some u → ∃ x, xs[k * sz + j]? = some x ∧ CR R W u x := by
  obtain ⟨f1, f2⟩ := flat_get sz get n hl
  obtain ⟨xs, h1, h2, h3⟩ := cells_values (V := CR R W) (b := b) (o := o) ((List.range n).flatMap get) fun m u hu => by
    obtain ⟨k, j, hk, rfl, hg⟩ := f2 m u hu
    exact h k j u hk hg
  refine ⟨xs, by rw [h1, f1], h2, fun k j u hk hu => ?_⟩
  have hj : j < sz := by
    rcases Nat.lt_or_ge j (get k).length with g | g
    · rw [hl k hk] at g; exact g
    · rw [List.getElem?_eq_none g] at hu; cases hu
  have hm : k * sz + j < xs.length := by
    rw [h1, f1]
    have : (k + 1) * sz ≤ n * sz := Nat.mul_le_mul_right _ hk
    rw [Nat.succ_mul] at this; omega
  refine ⟨xs[k * sz + j], List.getElem?_eq_getElem hm, ?_⟩
  obtain ⟨y, hy, hv⟩ := h k j u hk hu
  have := h2 _ _ (List.getElem?_eq_getElem hm)
  rw [hy] at this
  rw [← Option.some.inj this]; exact hv

/-- append, where there is room. -/
theorem run_app_room {P : Program} {t ty e : TypeId} {i : TypeInfo} (ht : P.underlying t = some (.slice e)) (hi : P.info? e = some i) {W W' : World} {A : Option Addr} {n cap m : Nat} {y : Value} {B : Option Addr} {cb : Nat} (hy : y = .slice B m cb)
    {news : List Value} (hl : news.length = m * i.size) (hnews : m = 0 ∨ ∃ b o, B = some ⟨b, o, none⟩ ∧ ∀ (k : Nat) (x : Value), news[k]? = some x → W.cell? ⟨b, o + k, none⟩ = some x) (hroom : n + m ≤ cap)
    (hst : match A with | some a => (storeCells (a.add (n * i.size)) news).run P W = .ok () W' | none => W' = W) :
    (Builtin.append_ #[t, t] ty #[.slice A n cap, y]).run P W = .ok (.slice A (n + m) cap) W' := by
  subst hy
  have hf : (Builtin.firstCells i.size m (.slice B m cb)).run P W = .ok news.toArray W := by
    rcases hnews with rfl | ⟨b, o, rfl, hn⟩
    · have : news = [] := List.eq_nil_of_length_eq_zero (by simpa using hl)
      subst this
      cases B <;> simp [Builtin.firstCells, loadCells, loadCellsFrom]
    · exact run_firstCells_some (P := P) W i.size m ⟨b, o, none⟩ m cb news hl fun j x hx => by rw [add_none]; exact hn j x hx
  cases A with
  | none =>
    subst hst
    simp [Builtin.append_, run_und ht, sizeOf, typeInfo, hi, Builtin.lenOf, hroom, hf]
  | some a =>
    simp only at hst
    simp [Builtin.append_, run_und ht, sizeOf, typeInfo, hi, Builtin.lenOf, hroom, hf, hst]

/-- Bytes as a text. -/
def byteAV : List AV → Option Int
  | [.v (.int .u8 a)] => some a
  | _ => none
def strB (l : List Int) : ByteArray := l.foldl (fun r n => r.push (UInt8.ofNat n.toNat)) ByteArray.empty
def strL (n : Nat) (g : Nat → List AV) : List Int := (List.range n).map fun k => (byteAV (g k)).getD 0
def aConvS (tt : List TE) (src dst : Nat) (x : AV) (σ : St) : Option (Bool × AV) :=
  match look tt src, look tt dst with
  | some e, some e' => match e.td, e'.td with
    | .slice el, .string => match look tt el with
      | some ee => match ee.td with
        | .int .u8 => match rowOf 1 x σ with
          | some (c, n, g) => some (c && ((List.range n).all fun k => (byteAV (g k)).isSome), .v (.string (strB (strL n g))))
          | none => none
        | _ => none
      | none => none
    | _, _ => none
  | _, _ => none
theorem aConvS_ok {P : Program} {tt : List TE} (ht : TTok P tt) {src dst : Nat} {R : Nat → Prop} {φ : Phi} {σ : St} {W : World} (hs : Sim R φ σ W) {x : AV} {v : Value} (hx : VR R φ W x v) {c : Bool} {u : AV} (ha : aConvS tt src dst x σ = some (c, u)) (hc : c = true) :
    ∃ y, (convert src dst v).run P W = .ok y W ∧ VR R φ W u y := by
  unfold aConvS at ha
  split at ha
  case h_2 => cases ha
  rename_i e e' he he'
  split at ha
  case h_2 => cases ha
  rename_i el htd htd'
  have hlk := (look_ok ht he).1
  have hlk' := (look_ok ht he').1
  rw [htd] at hlk
  rw [htd'] at hlk'
  split at ha
  case h_2 => cases ha
  rename_i ee hee
  split at ha
  case h_2 => cases ha
  rename_i htd2
  have hlk2 := (look_ok ht hee).1
  rw [htd2] at hlk2
  split at ha
  case h_2 => cases ha
  rename_i c1 n g hr
  obtain ⟨rfl, rfl⟩ := Prod.mk.inj (Option.some.inj ha)
  simp only [Bool.and_eq_true] at hc
  obtain ⟨hg1, _, A, cap, rfl, hA⟩ := rowOf_ok hs (by decide) hx hr hc.1
  have hby : ∀ k, k < n → ∃ a, g k = [.v (.int .u8 a)] := fun k hk => by
    have := List.all_eq_true.1 hc.2 k (List.mem_range.2 hk)
    unfold byteAV at this
    split at this
    · rename_i a h; exact ⟨a, h⟩
    · cases this
  have hund : P.underlying src = some (.slice el) := hlk
  have hund' : P.underlying dst = some .string := hlk'
  have hund2 : P.underlying el = some (.int .u8) := hlk2
  refine ⟨.string (strB (strL n g)), ?_, .imm (.v _)⟩
  rw [run_convert_bytes_string W src dst el A n cap hund hund2 hund']
  cases A with
  | none =>
    rcases hA with rfl | ⟨b, o, hA, _⟩
    · simp [Conv.bytesToString, strB, strL]
    · cases hA
  | some a =>
    refine run_bytesToString W a n cap (strL n g) ?_
    have hll : (strL n g).length = n := by simp [strL]
    have := run_firstCells_some (P := P) W 1 n a n cap ((strL n g).map (Value.int .u8)) (by rw [List.length_map, hll, Nat.mul_one]) fun j y hj => ?_
    · simpa [Builtin.firstCells] using this
    · obtain ⟨z0, hz, rfl⟩ := by
        rw [List.getElem?_map] at hj
        cases hk : (strL n g)[j]? with
        | none => rw [hk] at hj; cases hj
        | some q => rw [hk] at hj; exact (⟨q, hk, Option.some.inj hj⟩ : ∃ q, (strL n g)[j]? = some q ∧ Value.int .u8 q = y)
      have hjn : j < n := by rw [← hll]; exact (List.getElem?_eq_some_iff.1 hz).1
      rcases hA with rfl | ⟨b, o, hA, hcell⟩
      · omega
      · obtain rfl := Option.some.inj hA
        obtain ⟨q, hq⟩ := hby j hjn
        obtain ⟨y, hy1, hy2⟩ := hcell j 0 (.v (.int .u8 q)) hjn (by rw [hq]; rfl)
        have hval : y = .int .u8 q := by cases hy2.1; rfl
        subst hval
        have e1 : z0 = q := by
          unfold strL at hz
          rw [List.getElem?_map, List.getElem?_range hjn] at hz
          simp only [Option.map_some, Option.some.injEq] at hz
          rw [hq] at hz
          exact hz.symm
        subst e1
        rw [add_none]
        simpa using hy1
end Go.Proofs.Ythdeehkmlaejfaa.E
