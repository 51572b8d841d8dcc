/- The engine, part 8: memory that is made or written. -/
import Derived.Test.YtaneamfnjhiigaaDoorEOpE
namespace Go.Proofs.YtaneamfnjhiigaaDoor.E
open Go
set_option linter.unusedSimpArgs false
set_option linter.unusedVariables false

/-- The cells that a value takes. -/
def cellsOf : AV → Option (List AV)
  | .a cs => some cs
  | .v x => match scal x with | true => some [.v x] | false => none
  | .t _ => none
  | .dead => none
  | u => some [u]

theorem scal_cells {x : Value} (h : scal x = true) : x.cells.toList = [x] := by cases x <;> first | rfl | cases h

/-- The values of an aggregate's cells are no aggregates: said where it matters. -/
def Flat (vs : List Value) : Prop := ∀ x ∈ vs, scal x = true

theorem cellsOf_ok {R : Nat → Prop} {φ : Phi} {W : World} {u : AV} {v : Value} (h : VR R φ W u v) {cs : List AV} (hc : cellsOf u = some cs) :
    ∃ vs, v.cells.toList = vs ∧ cs.length = vs.length ∧ ∀ (k : Nat) (w : AV) (x : Value), cs[k]? = some w → vs[k]? = some x → VR R φ W w x := by
  have one : ∀ {u : AV} {v : Value}, VR R φ W u v → scal v = true → cs = [u] → ∃ vs, v.cells.toList = vs ∧ cs.length = vs.length ∧ ∀ (k : Nat) (w : AV) (x : Value), cs[k]? = some w → vs[k]? = some x → VR R φ W w x := by
    intro u v h hs hcs
    refine ⟨[v], scal_cells hs, by rw [hcs]; rfl, fun k w x hw hx => ?_⟩
    rw [hcs] at hw
    cases k with
    | zero => simp at hw hx; subst hw hx; exact h
    | succ k => simp at hw
  cases u with
  | a cs' =>
    obtain rfl := Option.some.inj hc
    obtain ⟨vs, rfl, hl, hr⟩ := h.agg
    exact ⟨vs, by simp [Value.cells], hl, hr⟩
  | v x =>
    simp only [cellsOf] at hc
    cases hs : scal x with
    | false => simp [hs] at hc
    | true =>
      simp only [hs] at hc
      obtain rfl := Option.some.inj hc
      obtain rfl := h.val
      exact one h hs rfl
  | t _ => simp [cellsOf] at hc
  | dead => simp [cellsOf] at hc
  | p l off => obtain rfl := Option.some.inj hc; cases h with
    | imm hi => cases hi
    | p h' => exact one (.p h') rfl rfl
  | q l sz i j => obtain rfl := Option.some.inj hc; cases h with
    | imm hi => cases hi
    | q h' => exact one (.q h') rfl rfl
  | s l sz o n => obtain rfl := Option.some.inj hc; cases h with
    | imm hi => cases hi
    | nil h' => exact one (.nil h') rfl rfl
    | z h' => exact one (.z h') rfl rfl
    | s h1 h2 h3 => exact one (.s h1 h2 h3) rfl rfl
  | i sz n get => obtain rfl := Option.some.inj hc; cases h with
    | imm hi => cases hi with
      | nil => exact one (.imm (.nil _ _ _ _)) rfl rfl
      | i x hb hn hl hc hx hsc hs hm => exact one (.imm (.i x hb hn hl hc hx hsc hs hm)) rfl rfl
  | ip cs' j => obtain rfl := Option.some.inj hc; cases h with
    | imm hi => cases hi with
      | ip x hb hc hx => exact one (.imm (.ip x hb hc hx)) rfl rfl
  | z => obtain rfl := Option.some.inj hc; cases h with
    | imm hi => cases hi with
      | z a => exact one (.imm (.z a)) rfl rfl
  | f fn us cs' => obtain rfl := Option.some.inj hc; cases h with
    | imm hi => cases hi
    | f h1 h2 h3 h4 => exact one (.f h1 h2 h3 h4) rfl rfl
  | y l => obtain rfl := Option.some.inj hc; cases h with
    | imm hi => cases hi
    | y h' => exact one (.y h') rfl rfl

theorem heap_alloc (W : World) (o : Obj) (b : Nat) (h : b < W.heap.size) : (W.alloc o).heap[b]? = W.heap[b]? := by
  simp only [World.alloc, Array.getElem?_push]
  rw [if_neg (by omega)]

theorem Keep.alloc (F : Nat → Nat → Prop) (W : World) (o : Obj) : Keep F W (W.alloc o) where
  os := rfl
  tape := rfl
  output := rfl
  size := by simp
  obj b hb _ := heap_alloc W o b hb
  cells b c T fr hc := by
    have hb : b < W.heap.size := (Array.getElem?_eq_some_iff.1 hc).1
    exact ⟨c, by rw [heap_alloc W o b hb]; exact hc, rfl, fun _ _ => rfl⟩
  loops b r hr := ⟨r.state, r.pending, by rw [heap_alloc W o b (Array.getElem?_eq_some_iff.1 hr).1]; exact hr⟩

theorem heap_new (W : World) (o : Obj) : (W.alloc o).heap[W.heap.size]? = some o := by simp only [World.alloc, Array.getElem?_push, if_true]

theorem Free.new (W : World) (c : Array Value) (T : TypeId) : Free (W.alloc (.cells c T)) W.heap.size := ⟨c, T, heap_new W _⟩

/-- The roots' map with one more. -/
def upd (φ : Phi) (l : Nat) (p : Option (Nat × Nat)) : Phi := fun m => if m = l then some p else φ m
theorem upd_same (φ : Phi) (l : Nat) (p : Option (Nat × Nat)) : upd φ l p l = some p := by simp [upd]
theorem upd_ext {φ : Phi} {l : Nat} (p : Option (Nat × Nat)) (h : φ l = none) : Ext φ (upd φ l p) := by
  intro m q hq
  unfold upd
  split
  · rename_i e; subst e; rw [h] at hq; cases hq
  · exact hq

theorem upd_none {φ : Phi} {l m : Nat} {p : Option (Nat × Nat)} (hm : m ≠ l) (h : φ m = none) : upd φ l p m = none := by unfold upd; rw [if_neg hm]; exact h

theorem append_get {α : Type} {l : List α} {x y : α} {m : Nat} (h : (l ++ [x])[m]? = some y) : (m = l.length ∧ y = x) ∨ (m ≠ l.length ∧ l[m]? = some y) := by
  rw [List.getElem?_append] at h
  split at h
  · rename_i hlt; exact .inr ⟨by omega, h⟩
  · rename_i hge
    by_cases hm : m = l.length
    · subst hm; simp at h; exact .inl ⟨rfl, h.symm⟩
    · rw [List.getElem?_eq_none (by simp; omega)] at h; cases h

/-- A state with a root more. -/
theorem Rel.newObj {F0 : Nat → Nat → Prop} {W0 : World} {R : Nat → Prop} {φ : Phi} {σ : St} {f : List AV} {tmps : Array Value} {W : World} (h : Rel F0 W0 R φ σ f tmps W) (o : Obj) {B : Blk}
    (hB : BlkOk R (upd φ σ.length (some (W.heap.size, 0))) (W.alloc o) σ.length B) :
    Rel F0 W0 R (upd φ σ.length (some (W.heap.size, 0))) (σ ++ [B]) f tmps (W.alloc o) := by
  have hnone : φ σ.length = none := h.sim.dom _ (Nat.le_refl _)
  refine Rel.turn h (l := σ.length) (src := σ.length) (B' := B) (G := fun _ _ => False) (Keep.alloc _ W _) (upd_ext _ hnone) (fun m hm h => upd_none hm h) (fun b k hg => hg.elim) hB (fun b k hw => ?_) (fun m B0 e => ?_) fun m hm => ?_
  · refine .inr ?_
    cases B with
    | lit cs => obtain ⟨o, e, _⟩ := hw; rw [upd_same] at e; obtain ⟨rfl, rfl⟩ := Prod.mk.inj (Option.some.inj (Option.some.inj e)); exact Nat.le_refl _
    | tab sz n get => obtain ⟨o, e⟩ := hw; rw [upd_same] at e; obtain ⟨rfl, rfl⟩ := Prod.mk.inj (Option.some.inj (Option.some.inj e)); exact Nat.le_refl _
    | lrec e => have e : upd φ σ.length (some (W.heap.size, 0)) σ.length = some (some (b, 0)) := hw; rw [upd_same] at e; obtain ⟨rfl, _⟩ := Prod.mk.inj (Option.some.inj (Option.some.inj e)); exact Nat.le_refl _
    | held => have e : upd φ σ.length (some (W.heap.size, 0)) σ.length = some (some (b, 0)) := hw; rw [upd_same] at e; obtain ⟨rfl, _⟩ := Prod.mk.inj (Option.some.inj (Option.some.inj e)); exact Nat.le_refl _
    | gone => exact hw.elim
    | free => exact hw.elim
  · rcases append_get e with ⟨rfl, rfl⟩ | ⟨hne, e⟩
    · exact .inl ⟨rfl, rfl⟩
    · exact .inr (.inr ⟨hne, hne, e⟩)
  · simp only [List.length_append, List.length_cons, List.length_nil] at hm
    unfold upd
    rw [if_neg (by omega)]
    exact h.sim.dom m (by omega)

theorem Rel.new {F0 : Nat → Nat → Prop} {W0 : World} {R : Nat → Prop} {φ : Phi} {σ : St} {f : List AV} {tmps : Array Value} {W : World} (h : Rel F0 W0 R φ σ f tmps W) (c : Array Value) (T : TypeId) {B : Blk}
    (hB : BlkOk R (upd φ σ.length (some (W.heap.size, 0))) (W.alloc (.cells c T)) σ.length B) :
    Rel F0 W0 R (upd φ σ.length (some (W.heap.size, 0))) (σ ++ [B]) f tmps (W.alloc (.cells c T)) := h.newObj _ hB

/-- A new root of single cells. -/
theorem Rel.newLit {F0 : Nat → Nat → Prop} {W0 : World} {R : Nat → Prop} {φ : Phi} {σ : St} {f : List AV} {tmps : Array Value} {W : World} (h : Rel F0 W0 R φ σ f tmps W) {cs : List AV} {vs : List Value} (T : TypeId)
    (hl : cs.length = vs.length) (hv : ∀ (k : Nat) (u : AV) (x : Value), cs[k]? = some u → vs[k]? = some x → VR R φ W u x) :
    Rel F0 W0 R (upd φ σ.length (some (W.heap.size, 0))) (σ ++ [.lit cs]) f tmps (W.alloc (.cells vs.toArray T)) := by
  refine h.new vs.toArray T ⟨W.heap.size, 0, upd_same _ _ _, Free.new W _ _, fun k u hu => ?_⟩
  obtain ⟨x, hx⟩ := vs_get hl hu
  refine ⟨x, by first | (rw [Nat.zero_add, World.cell?_alloc_new]; done) | (rw [Nat.zero_add, World.cell?_alloc_new]; simpa using hx), ?_⟩
  have hc : Calm R W (W.alloc (.cells vs.toArray T)) := (Keep.alloc (fun _ _ => False) W _).calm fun _ _ h => h.elim
  exact (hv k u x hu hx).mono (fun _ hb => hb) hc (Keep.alloc (fun _ _ => False) W _).room_le (upd_ext _ (h.sim.dom _ (Nat.le_refl _)))

/-- box: a variable that holds a value. -/
def aBox (x : AV) (σ : St) : Option (AV × St) :=
  match cellsOf x with
  | some cs => some (.p σ.length 0, σ ++ [.lit cs])
  | none => none
theorem aBox_ok {P : Program} {F0 : Nat → Nat → Prop} {W0 : World} {R : Nat → Prop} {φ : Phi} {σ : St} {f : List AV} {tmps : Array Value} {W : World} (h : Rel F0 W0 R φ σ f tmps W) {x : AV} {v : Value} (hx : VR R φ W x v)
    {u : AV} {σ' : St} (ha : aBox x σ = some (u, σ')) (T : TypeId) : ∃ y W' φ', (Instr.box T v).run P W = .ok y W' ∧ Ext φ φ' ∧ Rel F0 W0 R φ' σ' f tmps W' ∧ VR R φ' W' u y := by
  unfold aBox at ha
  cases hc : cellsOf x with
  | none => simp [hc] at ha
  | some cs =>
    simp only [hc, Option.some.injEq, Prod.mk.injEq] at ha
    obtain ⟨rfl, rfl⟩ := ha
    obtain ⟨vs, hvs, hl, hr⟩ := cellsOf_ok hx hc
    have hv : v.cells = vs.toArray := by rw [← hvs]
    refine ⟨.pointer (some ⟨W.heap.size, 0, none⟩), W.alloc (.cells vs.toArray T), upd φ σ.length (some (W.heap.size, 0)), ?_, upd_ext _ (h.sim.dom _ (Nat.le_refl _)), h.newLit T hl hr, ?_⟩
    · unfold Instr.box newVar newRow newObj
      simp [Sem.run, hv]
    · exact .p (b := W.heap.size) (o := 0) (upd_same _ _ _)

/-- alloc: a variable at its zero value. An array's is a row. -/
def aAlloc (tt : List TE) (t : Nat) (σ : St) : Option (AV × St) :=
  match look tt t with
  | none => none
  | some e =>
    match e.td with
    | .array n el => match look tt el with
      | none => none
      | some ee => match Nat.beq e.zero.length (n * ee.size), Nat.ble 1 ee.size, Nat.ble e.zero.length 4096, e.zero.all scal with
        | true, true, true, true => some (.p σ.length 0, σ ++ [.tab ee.size n fun k => ((e.zero.drop (k * ee.size)).take ee.size).map .v])
        | _, _, _, _ => none
    | _ => some (.p σ.length 0, σ ++ [.lit (e.zero.map .v)])

theorem aAlloc_ok {P : Program} {tt : List TE} (ht : TTok P tt) {F0 : Nat → Nat → Prop} {W0 : World} {R : Nat → Prop} {φ : Phi} {σ : St} {f : List AV} {tmps : Array Value} {W : World} (h : Rel F0 W0 R φ σ f tmps W)
    {t : Nat} {u : AV} {σ' : St} (ha : aAlloc tt t σ = some (u, σ')) : ∃ y W' φ', (Instr.alloc t true (.tuple #[])).run P W = .ok y W' ∧ Ext φ φ' ∧ Rel F0 W0 R φ' σ' f tmps W' ∧ VR R φ' W' u y := by
  unfold aAlloc at ha
  cases he : look tt t with
  | none => simp [he] at ha
  | some e =>
    simp only [he] at ha
    obtain ⟨z, hz, hzc⟩ := run_zeroValue ht he W
    have hv : z.cells = e.zero.toArray := by rw [← hzc]
    have hrun : (Instr.alloc t true (.tuple #[])).run P W = .ok (.pointer (some ⟨W.heap.size, 0, none⟩)) (W.alloc (.cells e.zero.toArray t)) := by
      unfold Instr.alloc
      simp only [Sem.run_bind, hz, Result.andThen_ok]
      unfold newVar newRow newObj
      simp [Sem.run, hv]
    have lit : ∃ y W' φ', (Instr.alloc t true (.tuple #[])).run P W = .ok y W' ∧ Ext φ φ' ∧ Rel F0 W0 R φ' (σ ++ [.lit (e.zero.map .v)]) f tmps W' ∧ VR R φ' W' (.p σ.length 0) y := by
      refine ⟨_, _, upd φ σ.length (some (W.heap.size, 0)), hrun, upd_ext _ (h.sim.dom _ (Nat.le_refl _)), ?_, .p (b := W.heap.size) (o := 0) (upd_same _ _ _)⟩
      have := h.newLit (cs := e.zero.map .v) (vs := e.zero) t (by simp) fun k u x hu hx => by
        obtain ⟨y, hy, rfl⟩ := getElem?_map_some hu
        rw [hy] at hx; obtain rfl := Option.some.inj hx; exact .imm (.v _)
      exact this
    split at ha
    · rename_i n el htd
      cases hee : look tt el with
      | none => simp [hee] at ha
      | some ee =>
        simp only [hee] at ha
        split at ha
        · rename_i h1 h2 h3 h4
          simp only [Option.some.injEq, Prod.mk.injEq] at ha
          obtain ⟨rfl, rfl⟩ := ha
          have h1 := Nat.eq_of_beq_eq_true h1
          have h2 := Nat.le_of_ble_eq_true h2
          have h3 := Nat.le_of_ble_eq_true h3
          refine ⟨_, _, upd φ σ.length (some (W.heap.size, 0)), hrun, upd_ext _ (h.sim.dom _ (Nat.le_refl _)), h.new e.zero.toArray t ?_, .p (b := W.heap.size) (o := 0) (upd_same _ _ _)⟩
          refine ⟨by omega, by omega, fun k hk => ?_, .inr ⟨W.heap.size, 0, upd_same _ _ _, Free.new W _ _, fun k j u hk hu => ?_⟩⟩
          · have : (k + 1) * ee.size ≤ n * ee.size := Nat.mul_le_mul_right _ hk
            rw [Nat.succ_mul] at this
            simp; omega
          · obtain ⟨y, hy, rfl⟩ := getElem?_map_some hu
            rw [List.getElem?_take] at hy
            split at hy
            · rw [List.getElem?_drop] at hy
              exact ⟨y, by first | (rw [Nat.zero_add, World.cell?_alloc_new]; done) | (rw [Nat.zero_add, World.cell?_alloc_new]; simpa using hy), .v _, List.all_eq_true.1 h4 _ (List.mem_of_getElem? hy)⟩
            · cases hy
        · cases ha
    · simp only [Option.some.injEq, Prod.mk.injEq] at ha
      obtain ⟨rfl, rfl⟩ := ha
      exact lit
end Go.Proofs.YtaneamfnjhiigaaDoor.E
