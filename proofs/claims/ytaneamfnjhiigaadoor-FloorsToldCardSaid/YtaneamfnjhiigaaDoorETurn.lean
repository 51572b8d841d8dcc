/- The engine, part 16: what a piece of a run does to roots and worlds; fences; functions' contracts. -/
import Derived.Test.YtaneamfnjhiigaaDoorEOpM
import Derived.RangeFuncRecord
import Derived.OrdersIn
import Derived.LoopNIn
import Derived.RangeFuncNested
namespace Go.Proofs.YtaneamfnjhiigaaDoor.E
open Go
set_option linter.unusedSimpArgs false
set_option linter.unusedVariables false

/-- The widest fence; in a round of the loop l. -/
def fen : Option Nat → Fence
  | none => Fence.wide
  | some l => Fence.wide.inRound l
theorem fen_round (r : Option Nat) : (fen r).round = r := by cases r <;> rfl
theorem fen_fn (r : Option Nat) (f : FuncId) : (fen r).fn f := by cases r <;> trivial
theorem fen_depth (r : Option Nat) {p : Prop} (h : (fen r).depth.isSome = true) : p := by cases r <;> cases h
theorem callsIn_fen {r : Option Nat} {n : Nat} {P : Program} {f : FuncId} {args : Array Value} {w : World} {R : Ending → World → Prop} : CallsIn (fen r) n P f args w R ↔ Calls P f args w R := by
  cases r
  · exact callsIn_wide
  · exact callsIn_wide (n := n)

/-- The cells that the roots own. -/
def Owned (φ : Phi) (σ : St) (b k : Nat) : Prop := ∃ l B, σ[l]? = some B ∧ own φ l B b k

/-- What a piece of a run does. -/
structure Turn (R : Nat → Prop) (φ : Phi) (σ : St) (W : World) (R' : Nat → Prop) (φ' : Phi) (σ' : St) (W' : World) : Prop where
  hR : ∀ b, R b → R' b
  hR' : ∀ b, R' b → R b ∨ W.heap.size ≤ b ∨ ∃ k, Owned φ σ b k
  ext : Ext φ φ'
  sim : Sim R' φ' σ' W'
  reg : ∀ b k, Owned φ' σ' b k → Owned φ σ b k ∨ W.heap.size ≤ b
  keep : Keep (Owned φ σ) W W'

theorem Turn.refl {R : Nat → Prop} {φ : Phi} {σ : St} {W : World} (h : Sim R φ σ W) : Turn R φ σ W R φ σ W :=
  ⟨fun _ h => h, fun _ h => .inl h, Ext.refl _, h, fun _ _ h => .inl h, Keep.refl _ _⟩

theorem Ext.trans {a b c : Phi} (h : Ext a b) (h' : Ext b c) : Ext a c := fun l p hp => h' l p (h l p hp)

theorem Turn.trans {R R1 R2 : Nat → Prop} {φ φ1 φ2 : Phi} {σ σ1 σ2 : St} {W W1 W2 : World} (h : Turn R φ σ W R1 φ1 σ1 W1) (h' : Turn R1 φ1 σ1 W1 R2 φ2 σ2 W2) : Turn R φ σ W R2 φ2 σ2 W2 where
  hR b hb := h'.hR b (h.hR b hb)
  hR' b hb := by
    rcases h'.hR' b hb with h1 | h1 | ⟨k, h1⟩
    · exact h.hR' b h1
    · exact .inr (.inl (Nat.le_trans h.keep.size h1))
    · rcases h.reg b k h1 with h2 | h2
      · exact .inr (.inr ⟨k, h2⟩)
      · exact .inr (.inl h2)
  ext := h.ext.trans h'.ext
  sim := h'.sim
  reg b k hw := by
    rcases h'.reg b k hw with h1 | h1
    · exact h.reg b k h1
    · exact .inr (Nat.le_trans h.keep.size h1)
  keep := h.keep.trans h'.keep fun b k hw => h.reg b k hw

theorem Sim.notR {R : Nat → Prop} {φ : Phi} {σ : St} {W : World} (h : Sim R φ σ W) (b k : Nat) (hw : Owned φ σ b k) : ¬ R b := by
  obtain ⟨l, B, e, hw⟩ := hw
  exact h.ro l B e b k hw

/-- What is known lives on. -/
theorem Turn.vr {R R' : Nat → Prop} {φ φ' : Phi} {σ σ' : St} {W W' : World} (h : Turn R φ σ W R' φ' σ' W') (hs : Sim R φ σ W) {u : AV} {v : Value} (hv : VR R φ W u v) : VR R' φ' W' u v :=
  hv.mono h.hR (h.keep.calm hs.notR) h.keep.room_le h.ext

/-- What is owned are cells, or a record. -/
theorem Sim.owned {R : Nat → Prop} {φ : Phi} {σ : St} {W : World} (h : Sim R φ σ W) {b k : Nat} (hw : Owned φ σ b k) : (∃ c T fr, W.heap[b]? = some (.cells c T fr)) ∨ ∃ r, W.heap[b]? = some (.loop r) := by
  obtain ⟨l, B, e, hw⟩ := hw
  have hb := h.blk l B e
  cases B with
  | lit cs =>
    obtain ⟨o, e1, _⟩ := hw; obtain ⟨b', o', e2, ⟨c, T, fr⟩, _⟩ := hb
    rw [e1] at e2; obtain ⟨rfl, rfl⟩ := Prod.mk.inj (Option.some.inj (Option.some.inj e2))
    exact .inl ⟨c, T, _, fr⟩
  | tab sz n get =>
    obtain ⟨o, e1⟩ := hw
    obtain ⟨_, _, _, hb⟩ := hb
    rcases hb with ⟨e2, _⟩ | ⟨b', o', e2, ⟨c, T, fr⟩, _⟩
    · rw [e1] at e2; cases e2
    · rw [e1] at e2; obtain ⟨rfl, rfl⟩ := Prod.mk.inj (Option.some.inj (Option.some.inj e2)); exact .inl ⟨c, T, _, fr⟩
  | lrec x =>
    obtain ⟨b', r, e2, h2, _⟩ := hb
    have e1 : φ l = some (some (b, 0)) := hw
    rw [e1] at e2; obtain ⟨rfl, _⟩ := Prod.mk.inj (Option.some.inj (Option.some.inj e2)); exact .inr ⟨r, h2⟩
  | held =>
    obtain ⟨b', r, e2, h2⟩ := hb
    have e1 : φ l = some (some (b, 0)) := hw
    rw [e1] at e2; obtain ⟨rfl, _⟩ := Prod.mk.inj (Option.some.inj (Option.some.inj e2)); exact .inr ⟨r, h2⟩
  | gone => exact hw.elim
  | free => exact hw.elim

/-- Deferred calls: the marks of loops over functions, none of whose rounds has deferred a call. -/
def Marks (W0 : World) (ds : List Deferred) (w : World) : Prop :=
  ∃ Ds : List Nat, ds = Ds.map (fun D => ({ target := .collected D, args := #[] } : Deferred)) ∧ Ds.Nodup ∧ ∀ D ∈ Ds, W0.heap.size ≤ D ∧ w.heap[D]? = some (.deferred (some []))
theorem Marks.nil (W0 w : World) : Marks W0 [] w := ⟨[], rfl, List.nodup_nil, fun _ h => by cases h⟩
theorem Marks.keep {W0 w w' : World} {ds : List Deferred} (h : Marks W0 ds w) {R : Nat → Prop} {φ : Phi} {σ : St} (hs : Sim R φ σ w) (hk : Keep (Owned φ σ) w w') : Marks W0 ds w' := by
  obtain ⟨Ds, e, hn, hd⟩ := h
  refine ⟨Ds, e, hn, fun D hD => ⟨(hd D hD).1, ?_⟩⟩
  have h1 := (hd D hD).2
  rw [hk.obj D (Array.getElem?_eq_some_iff.1 h1).1 fun k hw => ?_]
  · exact h1
  · rcases hs.owned hw with ⟨c, T, fr, h2⟩ | ⟨r, h2⟩ <;> rw [h1] at h2 <;> cases h2

/-- A beginning. -/
structure Ent where
  R : Nat → Prop
  φ : Phi
  σ : St
  W : World

/-- What is known of a frame and a world, since a beginning. -/
def Holds (E : Ent) (f : List AV) (σ : St) (a : Act) (w : World) : Prop :=
  ∃ R φ, Turn E.R E.φ E.σ E.W R φ σ w ∧ f.length = a.tmps.size ∧ (∀ (t : Nat) (u : AV), f[t]? = some u → VR R φ w u (a.tmps.getD t undef)) ∧ Marks E.W a.defers w

theorem localRel {R : Nat → Prop} {φ : Phi} {σ : St} {f : List AV} {tmps : Array Value} {w : World} (hs : Sim R φ σ w) (hl : f.length = tmps.size) (hf : ∀ (t : Nat) (u : AV), f[t]? = some u → VR R φ w u (tmps.getD t undef)) :
    Rel (Owned φ σ) w R φ σ f tmps w := ⟨hs, hf, fun l B e b k hw => .inl ⟨l, B, e, hw⟩, Keep.refl _ _, hl⟩
theorem turn_of_rel {R R' : Nat → Prop} {φ φ' : Phi} {σ σ' : St} {f : List AV} {tmps : Array Value} {w w' : World} (hR : ∀ b, R b → R' b) (hR' : ∀ b, R' b → R b ∨ w.heap.size ≤ b ∨ ∃ k, Owned φ σ b k) (hx : Ext φ φ') (h : Rel (Owned φ σ) w R' φ' σ' f tmps w') : Turn R φ σ w R' φ' σ' w' :=
  ⟨hR, hR', hx, h.sim, fun b k ⟨l, B, e, hw⟩ => h.reg l B e b k hw, h.keep⟩

/-- On by a piece. -/
theorem Holds.step {E : Ent} {f : List AV} {σ σ' : St} {a : Act} {w w' : World} {R R' : Nat → Prop} {φ φ' : Phi} (ht : Turn E.R E.φ E.σ E.W R φ σ w) (hl : f.length = a.tmps.size) (hf : ∀ (t : Nat) (u : AV), f[t]? = some u → VR R φ w u (a.tmps.getD t undef)) (hm : Marks E.W a.defers w)
    (h : Turn R φ σ w R' φ' σ' w') {u : AV} {v : Value} (hv : VR R' φ' w' u v) (d : Option Nat) : Holds E (match d with | some d => f.set d u | none => f) σ' (a.put d v) w' := by
  have hf' : ∀ (t : Nat) (u : AV), f[t]? = some u → VR R' φ' w' u (a.tmps.getD t undef) := fun t u hu => h.vr ht.sim (hf t u hu)
  have hm' := hm.keep ht.sim h.keep
  cases d with
  | none => exact ⟨R', φ', ht.trans h, hl, hf', hm'⟩
  | some d =>
    have hr := (localRel (R := R') (φ := φ') (σ := σ') h.sim hl hf').put hv d
    exact ⟨R', φ', ht.trans h, hr.len, hr.fr, hm'⟩

/-! ### Functions -/
/-- What a call does: a condition, its value, and the roots behind it. -/
abbrev Ctr := List AV → St → Option (Bool × AV × St)
abbrev Ctrs := List (Nat × Ctr)
def ctr (cs : Ctrs) (g : Nat) : Option Ctr := match cs.find? fun p => Nat.beq p.1 g with | some p => some p.2 | none => none

def Callable (P : Program) (g : Nat) : Prop := ∃ fn, P.funcs[g]? = some fn ∧ (fn.name == "runtime.NumGoroutine") = false ∧ fn.body.isNone = false
/-- A row of values by a row of abstract ones. -/
def VRs (R : Nat → Prop) (φ : Phi) (W : World) (us : List AV) (vs : List Value) : Prop := us.length = vs.length ∧ ∀ (k : Nat) (u : AV) (x : Value), us[k]? = some u → vs[k]? = some x → VR R φ W u x

/-- A contract holds. -/
structure CtrOk (P : Program) (g : Nat) (G : Ctr) : Prop where
  callable : Callable P g
  ok : ∀ {args : List AV} {σ : St} {u : AV} {σ' : St}, G args σ = some (true, u, σ') → ∀ {R : Nat → Prop} {φ : Phi} {W : World}, Sim R φ σ W → ∀ {vals : List Value}, VRs R φ W args vals →
    Calls P g vals.toArray W fun e W' => ∃ v R' φ', e = .returned v ∧ Turn R φ σ W R' φ' σ' W' ∧ VR R' φ' W' u v

def CtrsOk (P : Program) (cs : Ctrs) : Prop := ∀ p ∈ cs, CtrOk P p.1 p.2
theorem ctr_ok {P : Program} {cs : Ctrs} (h : CtrsOk P cs) {g : Nat} {G : Ctr} (hg : ctr cs g = some G) : CtrOk P g G := by
  unfold ctr at hg
  split at hg
  · rename_i p hp
    obtain rfl := Option.some.inj hg
    have h1 := List.find?_some hp
    have h1 := Nat.eq_of_beq_eq_true h1
    rw [← h1]
    exact h p (List.mem_of_find?_eq_some hp)
  · cases hg

def tr : Option Prop → Prop
  | some p => p
  | none => False
/-- A round of a loop over a function: with what it is called, from what on, what goes on behind. -/
abbrev YT := List AV → St → (AV → St → Option Prop) → Option Prop
abbrev YE := Nat → Option YT
def YOk (P : Program) (R : Nat → Prop) (φ : Phi) (σ : St) (W : World) (Y : YE) : Prop :=
  ∀ l T, Y l = some T → ∃ b, φ l = some (some (b, 0)) ∧ ∀ {R1 : Nat → Prop} {φ1 : Phi} {σ1 : St} {W1 : World}, Turn R φ σ W R1 φ1 σ1 W1 → ∀ {args : List AV} {vals : List Value}, VRs R1 φ1 W1 args vals → ∀ {K : AV → St → Option Prop}, tr (T args σ1 K) →
    YieldAt Fence.wide 0 P b vals.toArray W1 fun e W' => ∃ u σ' v R' φ', e = .returned v ∧ Turn R1 φ1 σ1 W1 R' φ' σ' W' ∧ VR R' φ' W' u v ∧ tr (K u σ')
theorem YOk.later {P : Program} {R R1 : Nat → Prop} {φ φ1 : Phi} {σ σ1 : St} {W W1 : World} {Y : YE} (h : YOk P R φ σ W Y) (ht : Turn R φ σ W R1 φ1 σ1 W1) : YOk P R1 φ1 σ1 W1 Y := fun l T hT => by
  obtain ⟨b, e, g⟩ := h l T hT
  exact ⟨b, ht.ext _ _ e, fun ht' _ _ hv _ hk => g (ht.trans ht') hv hk⟩
theorem YOk.none (P : Program) (R : Nat → Prop) (φ : Phi) (σ : St) (W : World) : YOk P R φ σ W fun _ => none := fun _ _ h => by cases h

/-- A call, with what goes on behind it. -/
abbrev Run := List AV → St → YE → (AV → St → Option Prop) → Option Prop
abbrev Runs := List (Nat × Run)
def run (ks : Runs) (g : Nat) : Option Run := match ks.find? fun p => Nat.beq p.1 g with | some p => some p.2 | none => none
structure RunOk (P : Program) (g : Nat) (T : Run) : Prop where
  callable : Callable P g
  ok : ∀ {args : List AV} {σ : St} {Y : YE} {K : AV → St → Option Prop}, tr (T args σ Y K) → ∀ {R : Nat → Prop} {φ : Phi} {W : World}, Sim R φ σ W → YOk P R φ σ W Y → ∀ {vals : List Value}, VRs R φ W args vals →
    Calls P g vals.toArray W fun e W' => ∃ u σ' v R' φ', e = .returned v ∧ Turn R φ σ W R' φ' σ' W' ∧ VR R' φ' W' u v ∧ tr (K u σ')
def RunsOk (P : Program) (ks : Runs) : Prop := ∀ p ∈ ks, RunOk P p.1 p.2
theorem run_ok {P : Program} {ks : Runs} (h : RunsOk P ks) {g : Nat} {T : Run} (hg : run ks g = some T) : RunOk P g T := by
  unfold run at hg
  split at hg
  · rename_i p hp
    obtain rfl := Option.some.inj hg
    have h1 := List.find?_some hp
    have h1 := Nat.eq_of_beq_eq_true h1
    rw [← h1]
    exact h p (List.mem_of_find?_eq_some hp)
  · cases hg
end Go.Proofs.YtaneamfnjhiigaaDoor.E
