/- The engine, part 1: abstract values and abstract memory, what they say of values and of the world, and that this lives on where memory grows or other cells are written. -/
import Derived.WalkKit
import Derived.KernelRfl
namespace Go.Proofs.YtaneamfnjhiigaaDoor.E
open Go
set_option linter.unusedSimpArgs false
set_option linter.unusedVariables false

/-- Abstract values. v: itself. p: the cell 'off' of the root l. q: the cell j of the element i (of sz cells each) of the root l. s: n elements from o on of the root l. i: a slice whose elements stay as they are. ip: a place in cells that stay as they are. a: a struct's or an array's cells. t: several results. f: a function value. y: the yield of the loop whose record the root l is. z: a slice of no elements that has no room. dead: anything. -/
inductive AV where
  | v (x : Value)
  | p (l off : Nat)
  | q (l sz i j : Nat)
  | s (l sz o n : Nat)
  | i (sz n : Nat) (get : Nat → List AV)
  | ip (cells : List AV) (j : Nat)
  | a (cells : List AV)
  | t (vs : List AV)
  | f (fn : Fn) (first caps : List AV)
  | y (l : Nat)
  | z
  | dead
  deriving Inhabited

/-- How code is left. -/
inductive Ex where
  | normal
  | exit (id : Nat)
  | ret
  deriving Inhabited
def Ex.to : Ex → Exit
  | .normal => .normal
  | .exit id => .exit id
  | .ret => .ret
/-- The jump that is left behind a round. -/
def Ex.jump : Ex → Option Code
  | .normal => none
  | .exit id => some (.exit id)
  | .ret => some .ret

def Ex.st : Ex → LoopState
  | .normal => .ready
  | _ => .done

/-- Abstract blocks: cells one by one; n elements of sz cells each; the record of a loop over a function (normal: it is ready; else how it was left), in a round of it; nothing is known; a root that is to be made. -/
inductive Blk where
  | lit (cells : List AV)
  | tab (sz n : Nat) (get : Nat → List AV)
  | lrec (e : Ex)
  | held
  | gone
  | free
  deriving Inhabited

/-- A value of one cell. -/
def scal : Value → Bool
  | .agg _ => false
  | .tuple _ => false
  | _ => true

/-- Values that hang on no root. R: blocks that nobody writes. -/
inductive IR (R : Nat → Prop) (W : World) : AV → Value → Prop
  | v (x : Value) : IR R W (.v x) x
  | nil (sz : Nat) (get : Nat → List AV) (a : Option Addr) (cap : Nat) : IR R W (.i sz 0 get) (.slice a 0 cap)
  | z (a : Option Addr) : IR R W .z (.slice a 0 0)
  | i {sz n : Nat} {get : Nat → List AV} {b o cap : Nat} (x : Nat → Nat → Value) (hb : R b) (hn : n ≤ cap) (hl : ∀ k, k < n → (get k).length = sz)
      (hc : ∀ (k j : Nat) (u : AV), k < n → (get k)[j]? = some u → W.cell? ⟨b, o + (k * sz + j), none⟩ = some (x k j))
      (hx : ∀ (k j : Nat) (u : AV), k < n → (get k)[j]? = some u → IR R W u (x k j)) (hsc : ∀ (k j : Nat) (u : AV), k < n → (get k)[j]? = some u → scal (x k j) = true) (hs : 0 < sz) (hm : n * sz < 281474976710656) :
      IR R W (.i sz n get) (.slice (some ⟨b, o, none⟩) n cap)
  | ip {cells : List AV} {j b o : Nat} (x : Nat → Value) (hb : R b)
      (hc : ∀ (k : Nat) (u : AV), cells[k]? = some u → W.cell? ⟨b, o + k, none⟩ = some (x k)) (hx : ∀ (k : Nat) (u : AV), cells[k]? = some u → IR R W u (x k)) :
      IR R W (.ip cells j) (.pointer (some ⟨b, o + j, none⟩))
  | a {cells : List AV} {vs : List Value} (hl : cells.length = vs.length) (hx : ∀ (k : Nat) (u : AV) (x : Value), cells[k]? = some u → vs[k]? = some x → IR R W u x) : IR R W (.a cells) (.agg vs.toArray)
  | t {cells : List AV} {vs : List Value} (hl : cells.length = vs.length) (hx : ∀ (k : Nat) (u : AV) (x : Value), cells[k]? = some u → vs[k]? = some x → IR R W u x) : IR R W (.t cells) (.tuple vs.toArray)

/-- How many cells a block has. -/
def room (W : World) (b : Nat) : Nat := match W.heap[b]? with | some (.cells c _ _) => c.size | _ => 0

/-- Where the roots lie: nowhere yet (there is no such root), nowhere (a nil slice), in a block from a place on. -/
abbrev Phi := Nat → Option (Option (Nat × Nat))

/-- What an abstract value says of a value. -/
inductive VR (R : Nat → Prop) (φ : Phi) (W : World) : AV → Value → Prop
  | imm {u : AV} {x : Value} (h : IR R W u x) : VR R φ W u x
  | p {l off b o : Nat} (h : φ l = some (some (b, o))) : VR R φ W (.p l off) (.pointer (some ⟨b, o + off, none⟩))
  | q {l sz i j b o : Nat} (h : φ l = some (some (b, o))) : VR R φ W (.q l sz i j) (.pointer (some ⟨b, o + (i * sz + j), none⟩))
  | nil {l sz o : Nat} {a : Option Addr} (h : φ l = some none) : VR R φ W (.s l sz o 0) (.slice a 0 0)
  | z {l sz o b f k : Nat} (h : φ l = some (some (b, f))) : VR R φ W (.s l sz o 0) (.slice (some ⟨b, k, none⟩) 0 0)
  | s {l sz o n b f cap : Nat} (h : φ l = some (some (b, f))) (hn : n ≤ cap) (hr : f + (o + cap) * sz ≤ room W b) : VR R φ W (.s l sz o n) (.slice (some ⟨b, f + o * sz, none⟩) n cap)
  | a {cells : List AV} {vs : List Value} (hl : cells.length = vs.length) (hx : ∀ (k : Nat) (u : AV) (x : Value), cells[k]? = some u → vs[k]? = some x → VR R φ W u x) : VR R φ W (.a cells) (.agg vs.toArray)
  | t {cells : List AV} {vs : List Value} (hl : cells.length = vs.length) (hx : ∀ (k : Nat) (u : AV) (x : Value), cells[k]? = some u → vs[k]? = some x → VR R φ W u x) : VR R φ W (.t cells) (.tuple vs.toArray)
  | f {fn : Fn} {first caps : List AV} {us vs : List Value} (hl' : first.length = us.length) (hx' : ∀ (k : Nat) (u : AV) (x : Value), first[k]? = some u → us[k]? = some x → VR R φ W u x)
      (hl : caps.length = vs.length) (hx : ∀ (k : Nat) (u : AV) (x : Value), caps[k]? = some u → vs[k]? = some x → VR R φ W u x) : VR R φ W (.f fn first caps) (.func fn us.toArray vs.toArray)
  | y {l b : Nat} (h : φ l = some (some (b, 0))) : VR R φ W (.y l) (.func (.yield b) #[] #[])
  | dead (x : Value) : VR R φ W .dead x

/-- The cells that a root owns. -/
def own (φ : Phi) (l : Nat) : Blk → Nat → Nat → Prop
  | .lit cs, b, k => ∃ o, φ l = some (some (b, o)) ∧ o ≤ k ∧ k < o + cs.length
  | .tab _ _ _, b, _ => ∃ o, φ l = some (some (b, o))
  | .lrec _, b, _ => φ l = some (some (b, 0))
  | .held, b, _ => φ l = some (some (b, 0))
  | .gone, _, _ => False
  | .free, _, _ => False

/-- A row of cells none of which is barred from being written. -/
def Free (W : World) (b : Nat) : Prop := ∃ c T, W.heap[b]? = some (.cells c T (0, 0))
theorem Free.frozen {W : World} {b : Nat} (h : Free W b) (k : Nat) : W.frozen? ⟨b, k, none⟩ = false := by
  obtain ⟨c, T, h⟩ := h
  unfold World.frozen?
  simp only [h]
  simp

/-- What an abstract value says of a cell in a row. -/
def CR (R : Nat → Prop) (W : World) (u : AV) (x : Value) : Prop := IR R W u x ∧ scal x = true

/-- What an abstract block says of the world. -/
def BlkOk (R : Nat → Prop) (φ : Phi) (W : World) (l : Nat) : Blk → Prop
  | .lit cs => ∃ b o, φ l = some (some (b, o)) ∧ Free W b ∧ ∀ k u, cs[k]? = some u → ∃ x, W.cell? ⟨b, o + k, none⟩ = some x ∧ VR R φ W u x
  | .tab sz n get => 0 < sz ∧ n * sz < 281474976710656 ∧ (∀ k, k < n → (get k).length = sz) ∧ ((φ l = some none ∧ n = 0) ∨ ∃ b o, φ l = some (some (b, o)) ∧ Free W b ∧
      ∀ k j u, k < n → (get k)[j]? = some u → ∃ x, W.cell? ⟨b, o + (k * sz + j), none⟩ = some x ∧ CR R W u x)
  | .lrec e => ∃ b r, φ l = some (some (b, 0)) ∧ W.heap[b]? = some (.loop r) ∧ r.state = e.st ∧ r.pending = e.jump
  | .held => ∃ b r, φ l = some (some (b, 0)) ∧ W.heap[b]? = some (Obj.loop r)
  | .gone => True
  | .free => φ l = none

abbrev St := List Blk

/-- The package variables that are read, and what stands in them. -/
def globs : List (Nat × List AV) :=
  (0, [0, 1, 56, 2, 57, 49, 28, 3, 61, 58, 42, 50, 38, 29, 17, 4, 62, 47, 59, 36, 45, 43, 51, 22, 53, 39, 33, 30, 24, 18, 12, 5, 63, 55, 48, 27, 60, 41, 37, 16, 46, 35, 44, 21, 52, 32, 23, 11, 54, 26, 40, 15, 34, 20, 31, 10, 25, 14, 19, 9, 13, 8, 7, 6].map fun n => .v (.int .u8 n)) ::
  []
def Globs (R : Nat → Prop) (W : World) : Prop := ∀ p ∈ globs, IR R W (.ip p.2 0) (.pointer (some ⟨p.1, 0, none⟩))
/-- What was there before. -/
structure Old (R : Nat → Prop) (W : World) : Prop where
  lt : ∀ b, R b → b < W.heap.size
  glob : Globs R W
instance {R : Nat → Prop} {W : World} : CoeFun (Old R W) fun _ => ∀ b, R b → b < W.heap.size := ⟨Old.lt⟩
structure Sim (R : Nat → Prop) (φ : Phi) (σ : St) (W : World) : Prop where
  blk : ∀ l B, σ[l]? = some B → BlkOk R φ W l B
  sep : ∀ l l' B B', l ≠ l' → σ[l]? = some B → σ[l']? = some B' → ∀ b k k', own φ l B b k → ¬ own φ l' B' b k'
  ro : ∀ l B, σ[l]? = some B → ∀ b k, own φ l B b k → ¬ R b
  old : Old R W
  dom : ∀ l, σ.length ≤ l → φ l = none

/-- The world has grown, or cells in F were written: all else is as it was. -/
structure Keep (F : Nat → Nat → Prop) (W W' : World) : Prop where
  os : W'.os = W.os
  tape : W'.tape = W.tape
  output : W'.output = W.output
  size : W.heap.size ≤ W'.heap.size
  obj : ∀ b, b < W.heap.size → (∀ k, ¬ F b k) → W'.heap[b]? = W.heap[b]?
  cells : ∀ b c T fr, W.heap[b]? = some (.cells c T fr) → ∃ c', W'.heap[b]? = some (.cells c' T fr) ∧ c'.size = c.size ∧ ∀ k, ¬ F b k → c'[k]? = c[k]?
  loops : ∀ (b : Nat) (r : Loop), W.heap[b]? = some (Obj.loop r) → ∃ st pe, W'.heap[b]? = some (Obj.loop { r with state := st, pending := pe })

theorem Keep.refl (F : Nat → Nat → Prop) (W : World) : Keep F W W := ⟨rfl, rfl, rfl, Nat.le_refl _, fun _ _ _ => rfl, fun _ c _ _ h => ⟨c, h, rfl, fun _ _ => rfl⟩, fun _ r h => ⟨r.state, r.pending, h⟩⟩

theorem Keep.mono {F G : Nat → Nat → Prop} {W W' : World} (h : Keep F W W') (hg : ∀ b k, F b k → G b k) : Keep G W W' :=
  ⟨h.os, h.tape, h.output, h.size, fun b hb hn => h.obj b hb fun k hk => hn k (hg b k hk), fun b c T fr hc => by
    obtain ⟨c', h1, h2, h3⟩ := h.cells b c T fr hc
    exact ⟨c', h1, h2, fun k hk => h3 k fun hf => hk (hg b k hf)⟩, h.loops⟩

/-- Steps one behind the other: what the later one writes lies in F, or is new. -/
theorem Keep.trans {F G : Nat → Nat → Prop} {A B C : World} (h : Keep F A B) (h' : Keep G B C) (hg : ∀ b k, G b k → F b k ∨ A.heap.size ≤ b) : Keep F A C where
  os := h'.os.trans h.os
  tape := h'.tape.trans h.tape
  output := h'.output.trans h.output
  size := Nat.le_trans h.size h'.size
  obj b hb hn := by
    rw [h'.obj b (Nat.lt_of_lt_of_le hb h.size) fun k hk => (hg b k hk).elim (hn k) (fun hle => by omega), h.obj b hb hn]
  cells b c T fr hc := by
    have hb : b < A.heap.size := by
      rcases Nat.lt_or_ge b A.heap.size with h1 | h1
      · exact h1
      · rw [Array.getElem?_eq_none h1] at hc; cases hc
    obtain ⟨c1, e1, e2, e3⟩ := h.cells b c T fr hc
    obtain ⟨c2, d1, d2, d3⟩ := h'.cells b c1 T fr e1
    refine ⟨c2, d1, d2.trans e2, fun k hk => ?_⟩
    rw [d3 k fun hf => (hg b k hf).elim hk (fun hle => by omega), e3 k hk]
  loops b r hr := by
    obtain ⟨st, pe, e1⟩ := h.loops b r hr
    obtain ⟨st', pe', e2⟩ := h'.loops b _ e1
    exact ⟨st', pe', e2⟩

theorem Keep.cell {F : Nat → Nat → Prop} {W W' : World} (h : Keep F W W') {b k : Nat} (hf : ¬ F b k) {x : Value} (hx : W.cell? ⟨b, k, none⟩ = some x) : W'.cell? ⟨b, k, none⟩ = some x := by
  have hb := World.block_lt_of_cell? W _ hx
  unfold World.cell? at hx ⊢
  simp only [Option.isSome_none, Bool.false_eq_true, if_false] at hx ⊢
  cases ho : W.heap[b]? with
  | none => rw [ho] at hx; cases hx
  | some o =>
    rw [ho] at hx
    cases o with
    | cells c T fr =>
      obtain ⟨c', e1, e2, e3⟩ := h.cells b c T fr ho
      rw [e1]
      show c'[k]? = some x
      rw [e3 k hf]; exact hx
    | _ => cases hx

theorem Keep.frozen {F : Nat → Nat → Prop} {W W' : World} (h : Keep F W W') {b k : Nat} (hb : ∃ c T fr, W.heap[b]? = some (.cells c T fr)) : W'.frozen? ⟨b, k, none⟩ = W.frozen? ⟨b, k, none⟩ := by
  obtain ⟨c, T, fr, hc⟩ := hb
  obtain ⟨c', e1, e2, e3⟩ := h.cells b c T fr hc
  unfold World.frozen?
  simp only [hc, e1]

theorem block_of_cell {W : World} {b k : Nat} {x : Value} (h : W.cell? ⟨b, k, none⟩ = some x) : ∃ c T fr, W.heap[b]? = some (.cells c T fr) := by
  unfold World.cell? at h
  simp only at h
  cases ho : W.heap[b]? with
  | none => rw [ho] at h; cases h
  | some o => cases o with
    | cells c T fr => exact ⟨c, T, fr, rfl⟩
    | _ => rw [ho] at h; cases h

theorem Keep.room_le {F : Nat → Nat → Prop} {W W' : World} (h : Keep F W W') (b : Nat) : room W b ≤ room W' b := by
  unfold room
  cases ho : W.heap[b]? with
  | none => simp
  | some o => cases o with
    | cells c T fr =>
      obtain ⟨c', e1, e2, e3⟩ := h.cells b c T fr ho
      rw [e1]; simp only [e2]; exact Nat.le_refl _
    | _ => simp

/-- Blocks that nobody writes are as they were. -/
def Calm (R : Nat → Prop) (W W' : World) : Prop := ∀ b k x, R b → W.cell? ⟨b, k, none⟩ = some x → W'.cell? ⟨b, k, none⟩ = some x

theorem Keep.calm {F : Nat → Nat → Prop} {R : Nat → Prop} {W W' : World} (h : Keep F W W') (hr : ∀ b k, F b k → ¬ R b) : Calm R W W' :=
  fun b k _ hb hx => h.cell (fun hf => hr b k hf hb) hx

theorem IR.mono {R R' : Nat → Prop} {W W' : World} (hR : ∀ b, R b → R' b) (hW : Calm R W W') {u : AV} {x : Value} (h : IR R W u x) : IR R' W' u x := by
  induction h with
  | v x => exact .v x
  | nil sz get a cap => exact .nil sz get a cap
  | z a => exact .z a
  | i x hb hn hl hc hx hsc hs hm ih => exact .i x (hR _ hb) hn hl (fun k j u hk hu => hW _ _ _ hb (hc k j u hk hu)) (fun k j u hk hu => ih k j u hk hu) hsc hs hm
  | ip x hb hc hx ih => exact .ip x (hR _ hb) (fun k u hu => hW _ _ _ hb (hc k u hu)) (fun k u hu => ih k u hu)
  | a hl hx ih => exact .a hl ih
  | t hl hx ih => exact .t hl ih

theorem CR.mono {R R' : Nat → Prop} {W W' : World} (hR : ∀ b, R b → R' b) (hW : Calm R W W') {u : AV} {x : Value} (h : CR R W u x) : CR R' W' u x := ⟨h.1.mono hR hW, h.2⟩

/-- What hangs on one of these roots is forgotten. -/
def kill1 (bad : Nat → Bool) : AV → AV
  | .p l off => if bad l then .dead else .p l off
  | .q l sz i j => if bad l then .dead else .q l sz i j
  | .s l sz o n => if bad l then .dead else .s l sz o n
  | .y l => if bad l then .dead else .y l
  | .v x => .v x
  | .i sz n get => .i sz n get
  | .ip cs j => .ip cs j
  | .z => .z
  | _ => .dead
def kill (bad : Nat → Bool) : AV → AV
  | .a cs => .a (cs.map (kill1 bad))
  | .t cs => .t (cs.map (kill1 bad))
  | .f fn us cs => .f fn (us.map (kill1 bad)) (cs.map (kill1 bad))
  | u => kill1 bad u

theorem VR.kill1 {R R' : Nat → Prop} {φ φ' : Phi} {W W' : World} {bad : Nat → Bool} (hR : ∀ b, R b → R' b) (hW : Calm R W W') (hr : ∀ b, room W b ≤ room W' b)
    (hφ : ∀ l, bad l = false → φ' l = φ l) {u : AV} {x : Value} (h : VR R φ W u x) : VR R' φ' W' (kill1 bad u) x := by
  cases h with
  | imm h =>
    have h' := h.mono hR hW
    cases h with
    | v _ => exact .imm h'
    | nil => exact .imm h'
    | z => exact .imm h'
    | i => exact .imm h'
    | ip => exact .imm h'
    | a => exact .dead _
    | t => exact .dead _
  | p h =>
    simp only [E.kill1]; split
    · exact .dead _
    · rename_i hb; exact .p (by rw [hφ _ (by simpa using hb)]; exact h)
  | q h =>
    simp only [E.kill1]; split
    · exact .dead _
    · rename_i hb; exact .q (by rw [hφ _ (by simpa using hb)]; exact h)
  | nil h =>
    simp only [E.kill1]; split
    · exact .dead _
    · rename_i hb; exact .nil (by rw [hφ _ (by simpa using hb)]; exact h)
  | z h =>
    simp only [E.kill1]; split
    · exact .dead _
    · rename_i hb; exact .z (by rw [hφ _ (by simpa using hb)]; exact h)
  | s h hn hr' =>
    simp only [E.kill1]; split
    · exact .dead _
    · rename_i hb; exact .s (by rw [hφ _ (by simpa using hb)]; exact h) hn (Nat.le_trans hr' (hr _))
  | y h =>
    simp only [E.kill1]; split
    · exact .dead _
    · rename_i hb; exact .y (by rw [hφ _ (by simpa using hb)]; exact h)
  | a => exact .dead _
  | t => exact .dead _
  | f => exact .dead _
  | dead x => exact .dead x

theorem getElem?_map_some {α β : Type} {f : α → β} {l : List α} {k : Nat} {u : β} (h : (l.map f)[k]? = some u) : ∃ y, l[k]? = some y ∧ f y = u := by
  rw [List.getElem?_map] at h
  cases hk : l[k]? with
  | none => rw [hk] at h; cases h
  | some y => rw [hk] at h; exact ⟨y, rfl, Option.some.inj h⟩

theorem VR.kill {R R' : Nat → Prop} {φ φ' : Phi} {W W' : World} {bad : Nat → Bool} (hR : ∀ b, R b → R' b) (hW : Calm R W W') (hr : ∀ b, room W b ≤ room W' b)
    (hφ : ∀ l, bad l = false → φ' l = φ l) {u : AV} {x : Value} (h : VR R φ W u x) : VR R' φ' W' (kill bad u) x := by
  have one : ∀ {u : AV} {x : Value}, VR R φ W u x → VR R' φ' W' (E.kill1 bad u) x := fun h => VR.kill1 hR hW hr hφ h
  cases h with
  | imm h =>
    cases h with
    | v _ => exact one (.imm (.v _))
    | nil => exact one (.imm (.nil _ _ _ _))
    | z => exact one (.imm (.z _))
    | i x hb hn hl hc hx hsc hs hm => exact one (.imm (.i x hb hn hl hc hx hsc hs hm))
    | ip x hb hc hx => exact one (.imm (.ip x hb hc hx))
    | a hl hx =>
      refine .a (by simpa using hl) fun k u x hu hx' => ?_
      obtain ⟨y, hy, rfl⟩ := getElem?_map_some hu
      exact one (.imm (hx k y x hy hx'))
    | t hl hx =>
      refine .t (by simpa using hl) fun k u x hu hx' => ?_
      obtain ⟨y, hy, rfl⟩ := getElem?_map_some hu
      exact one (.imm (hx k y x hy hx'))
  | p h => exact one (.p h)
  | q h => exact one (.q h)
  | nil h => exact one (.nil h)
  | z h => exact one (.z h)
  | y h => exact one (.y h)
  | s h hn hr' => exact one (.s h hn hr')
  | a hl hx =>
    refine .a (by simpa using hl) fun k u x hu hx' => ?_
    obtain ⟨y, hy, rfl⟩ := getElem?_map_some hu
    exact one (hx k y x hy hx')
  | t hl hx =>
    refine .t (by simpa using hl) fun k u x hu hx' => ?_
    obtain ⟨y, hy, rfl⟩ := getElem?_map_some hu
    exact one (hx k y x hy hx')
  | f hl' hy' hl hx =>
    refine .f (by simpa using hl') (fun k u x hu hx' => ?_) (by simpa using hl) fun k u x hu hx' => ?_
    · obtain ⟨y, hy, rfl⟩ := getElem?_map_some hu
      exact one (hy' k y x hy hx')
    · obtain ⟨y, hy, rfl⟩ := getElem?_map_some hu
      exact one (hx k y x hy hx')
  | dead x => exact .dead x

/-- More roots are known, or others lie elsewhere that were not known. -/
def Ext (φ φ' : Phi) : Prop := ∀ l p, φ l = some p → φ' l = some p
theorem Ext.refl (φ : Phi) : Ext φ φ := fun _ _ h => h

/-- It lives on where roots are made. -/
theorem VR.mono {R R' : Nat → Prop} {φ φ' : Phi} {W W' : World} (hR : ∀ b, R b → R' b) (hW : Calm R W W') (hr : ∀ b, room W b ≤ room W' b) (hφ : Ext φ φ') {u : AV} {x : Value} (h : VR R φ W u x) : VR R' φ' W' u x := by
  induction h with
  | imm h => exact .imm (h.mono hR hW)
  | p h => exact .p (hφ _ _ h)
  | q h => exact .q (hφ _ _ h)
  | nil h => exact .nil (hφ _ _ h)
  | z h => exact .z (hφ _ _ h)
  | y h => exact .y (hφ _ _ h)
  | s h hn hr' => exact .s (hφ _ _ h) hn (Nat.le_trans hr' (hr _))
  | a hl hx ih => exact .a hl ih
  | t hl hx ih => exact .t hl ih
  | f hl' hx' hl hx ih' ih => exact .f hl' ih' hl ih
  | dead x => exact .dead x
theorem Old.to {R R' : Nat → Prop} {W W' : World} (h : Old R W) (hR : ∀ b, R b → R' b) (hW : Calm R W W') (hl : ∀ b, R' b → b < W'.heap.size) : Old R' W' := ⟨hl, fun p hp => (h.glob p hp).mono hR hW⟩
theorem Old.keep {R : Nat → Prop} {W W' : World} (h : Old R W) (hs : W.heap.size ≤ W'.heap.size) (hW : Calm R W W') : Old R W' := h.to (fun _ h => h) hW fun b hb => Nat.lt_of_lt_of_le (h.lt b hb) hs
end Go.Proofs.YtaneamfnjhiigaaDoor.E
