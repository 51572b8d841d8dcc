/- The engine, and texts over it, joined: ETurn ERun EDraw EDrawY. -/
import Derived.Test.YthdeehkmlaejfaaEngB
import Derived.RangeFuncRecord
import Derived.OrdersIn
import Derived.LoopNIn
import Derived.RangeFuncNested
import Derived.Lib.SliceRun
/- The engine, part 16: what a piece of a run does to roots and worlds; fences; functions' contracts. -/
namespace Go.Proofs.Ythdeehkmlaejfaa.E
open Go
set_option linter.unusedSimpArgs false
set_option linter.unusedVariables false

/-- The widest fence; in a round of the loop l. -/
def fen : Option Nat → Fence
  | none => Fence.wide
  | some l => Fence.wide.inRound l
theorem fen_round (r : Option Nat) : (fen r).round = r := by cases r <;> rfl
theorem fen_fn (r : Option Nat) (f : FuncId) : (fen r).fn f := by cases r <;> trivial
theorem fen_depth (r : Option Nat) {p : Prop} (h : (fen r).depth.isSome = true) : p := by cases r <;> cases h
theorem callsIn_fen {r : Option Nat} {n : Nat} {P : Program} {f : FuncId} {args : Array Value} {w : World} {R : Ending → World → Prop} : CallsIn (fen r) n P f args w R ↔ Calls P f args w R := by
  cases r
  · exact callsIn_wide
  · exact callsIn_wide (n := n)

/-- The cells that the roots own. -/
def Owned (φ : Phi) (σ : St) (b k : Nat) : Prop := ∃ l B, σ[l]? = some B ∧ own φ l B b k

/-- What a piece of a run does. -/
structure Turn (R : Nat → Prop) (φ : Phi) (σ : St) (W : World) (R' : Nat → Prop) (φ' : Phi) (σ' : St) (W' : World) : Prop where
  hR : ∀ b, R b → R' b
  hR' : ∀ b, R' b → R b ∨ W.heap.size ≤ b ∨ ∃ k, Owned φ σ b k
  ext : Ext φ φ'
  sim : Sim R' φ' σ' W'
  reg : ∀ b k, Owned φ' σ' b k → Owned φ σ b k ∨ W.heap.size ≤ b
  keep : Keep (Owned φ σ) W W'

theorem Turn.refl {R : Nat → Prop} {φ : Phi} {σ : St} {W : World} (h : Sim R φ σ W) : Turn R φ σ W R φ σ W :=
  ⟨fun _ h => h, fun _ h => .inl h, Ext.refl _, h, fun _ _ h => .inl h, Keep.refl _ _⟩

theorem Ext.trans {a b c : Phi} (h : Ext a b) (h' : Ext b c) : Ext a c := fun l p hp => h' l p (h l p hp)

theorem Turn.trans {R R1 R2 : Nat → Prop} {φ φ1 φ2 : Phi} {σ σ1 σ2 : St} {W W1 W2 : World} (h : Turn R φ σ W R1 φ1 σ1 W1) (h' : Turn R1 φ1 σ1 W1 R2 φ2 σ2 W2) : Turn R φ σ W R2 φ2 σ2 W2 where
  hR b hb := h'.hR b (h.hR b hb)
  hR' b hb := by
    rcases h'.hR' b hb with h1 | h1 | ⟨k, h1⟩
    · exact h.hR' b h1
    · exact .inr (.inl (Nat.le_trans h.keep.size h1))
    · rcases h.reg b k h1 with h2 | h2
      · exact .inr (.inr ⟨k, h2⟩)
      · exact .inr (.inl h2)
  ext := h.ext.trans h'.ext
  sim := h'.sim
  reg b k hw := by
    rcases h'.reg b k hw with h1 | h1
    · exact h.reg b k h1
    · exact .inr (Nat.le_trans h.keep.size h1)
  keep := h.keep.trans h'.keep fun b k hw => h.reg b k hw

theorem Sim.notR {R : Nat → Prop} {φ : Phi} {σ : St} {W : World} (h : Sim R φ σ W) (b k : Nat) (hw : Owned φ σ b k) : ¬ R b := by
  obtain ⟨l, B, e, hw⟩ := hw
  exact h.ro l B e b k hw

/-- What is known lives on. -/
theorem Turn.vr {R R' : Nat → Prop} {φ φ' : Phi} {σ σ' : St} {W W' : World} (h : Turn R φ σ W R' φ' σ' W') (hs : Sim R φ σ W) {u : AV} {v : Value} (hv : VR R φ W u v) : VR R' φ' W' u v :=
  hv.mono h.hR (h.keep.calm hs.notR) h.keep.room_le h.ext

/-- What is owned are cells, or a record. -/
theorem Sim.owned {R : Nat → Prop} {φ : Phi} {σ : St} {W : World} (h : Sim R φ σ W) {b k : Nat} (hw : Owned φ σ b k) : (∃ c T fr, W.heap[b]? = some (.cells c T fr)) ∨ (∃ r, W.heap[b]? = some (.loop r)) ∨ (∃ es c, W.heap[b]? = some (.map es c)) ∨ ∃ m s seen st, W.heap[b]? = some (.mapIter m s seen st) := by
  obtain ⟨l, B, e, hw⟩ := hw
  have hb := h.blk l B e
  cases B with
  | lit cs =>
    obtain ⟨o, e1, _⟩ := hw; obtain ⟨b', o', e2, ⟨c, T, fr⟩, _⟩ := hb
    rw [e1] at e2; obtain ⟨rfl, rfl⟩ := Prod.mk.inj (Option.some.inj (Option.some.inj e2))
    exact .inl ⟨c, T, _, fr⟩
  | tab sz n get =>
    obtain ⟨o, e1⟩ := hw
    obtain ⟨_, _, _, hb⟩ := hb
    rcases hb with ⟨e2, _⟩ | ⟨b', o', e2, ⟨c, T, fr⟩, _⟩
    · rw [e1] at e2; cases e2
    · rw [e1] at e2; obtain ⟨rfl, rfl⟩ := Prod.mk.inj (Option.some.inj (Option.some.inj e2)); exact .inl ⟨c, T, _, fr⟩
  | lrec x =>
    obtain ⟨b', r, e2, h2, _⟩ := hb
    have e1 : φ l = some (some (b, 0)) := hw
    rw [e1] at e2; obtain ⟨rfl, _⟩ := Prod.mk.inj (Option.some.inj (Option.some.inj e2)); exact .inr (.inl ⟨r, h2⟩)
  | held =>
    obtain ⟨b', r, e2, h2⟩ := hb
    have e1 : φ l = some (some (b, 0)) := hw
    rw [e1] at e2; obtain ⟨rfl, _⟩ := Prod.mk.inj (Option.some.inj (Option.some.inj e2)); exact .inr (.inl ⟨r, h2⟩)
  | gone => exact hw.elim
  | free => exact hw.elim
  | tabv sz n get =>
    obtain ⟨o, e1⟩ := hw
    obtain ⟨_, _, _, hb⟩ := hb
    rcases hb with ⟨e2, _⟩ | ⟨b', o', e2, ⟨c, T, fr⟩, _⟩
    · rw [e1] at e2; cases e2
    · rw [e1] at e2; obtain ⟨rfl, rfl⟩ := Prod.mk.inj (Option.some.inj (Option.some.inj e2)); exact .inl ⟨c, T, _, fr⟩
  | map es c =>
    obtain ⟨b', e2, h2⟩ := hb
    have e1 : φ l = some (some (b, 0)) := hw
    rw [e1] at e2; obtain ⟨rfl, _⟩ := Prod.mk.inj (Option.some.inj (Option.some.inj e2)); exact .inr (.inr (.inl ⟨_, _, h2⟩))
  | iter m s seen st =>
    obtain ⟨b', bm, e2, _, h2⟩ := hb
    have e1 : φ l = some (some (b, 0)) := hw
    rw [e1] at e2; obtain ⟨rfl, _⟩ := Prod.mk.inj (Option.some.inj (Option.some.inj e2)); exact .inr (.inr (.inr ⟨_, _, _, _, h2⟩))

/-- Deferred calls: the marks of loops over functions, none of whose rounds has deferred a call. -/
def Marks (W0 : World) (ds : List Deferred) (w : World) : Prop :=
  ∃ Ds : List Nat, ds = Ds.map (fun D => ({ target := .collected D, args := #[] } : Deferred)) ∧ Ds.Nodup ∧ ∀ D ∈ Ds, W0.heap.size ≤ D ∧ w.heap[D]? = some (.deferred (some []))
theorem Marks.nil (W0 w : World) : Marks W0 [] w := ⟨[], rfl, List.nodup_nil, fun _ h => by cases h⟩
theorem Marks.keep {W0 w w' : World} {ds : List Deferred} (h : Marks W0 ds w) {R : Nat → Prop} {φ : Phi} {σ : St} (hs : Sim R φ σ w) (hk : Keep (Owned φ σ) w w') : Marks W0 ds w' := by
  obtain ⟨Ds, e, hn, hd⟩ := h
  refine ⟨Ds, e, hn, fun D hD => ⟨(hd D hD).1, ?_⟩⟩
  have h1 := (hd D hD).2
  rw [hk.obj D (Array.getElem?_eq_some_iff.1 h1).1 fun k hw => ?_]
  · exact h1
  · rcases hs.owned hw with ⟨c, T, fr, h2⟩ | ⟨r, h2⟩ | ⟨es, c, h2⟩ | ⟨m, s, seen, st, h2⟩ <;> rw [h1] at h2 <;> cases h2

/-- A beginning. -/
structure Ent where
  R : Nat → Prop
  φ : Phi
  σ : St
  W : World

/-- What is known of a frame and a world, since a beginning. -/
def Holds (E : Ent) (f : List AV) (σ : St) (a : Act) (w : World) : Prop :=
  ∃ R φ, Turn E.R E.φ E.σ E.W R φ σ w ∧ f.length = a.tmps.size ∧ (∀ (t : Nat) (u : AV), f[t]? = some u → VR R φ w u (a.tmps.getD t undef)) ∧ Marks E.W a.defers w

theorem localRel {R : Nat → Prop} {φ : Phi} {σ : St} {f : List AV} {tmps : Array Value} {w : World} (hs : Sim R φ σ w) (hl : f.length = tmps.size) (hf : ∀ (t : Nat) (u : AV), f[t]? = some u → VR R φ w u (tmps.getD t undef)) :
    Rel (Owned φ σ) w R φ σ f tmps w := ⟨hs, hf, fun l B e b k hw => .inl ⟨l, B, e, hw⟩, Keep.refl _ _, hl⟩
theorem turn_of_rel {R R' : Nat → Prop} {φ φ' : Phi} {σ σ' : St} {f : List AV} {tmps : Array Value} {w w' : World} (hR : ∀ b, R b → R' b) (hR' : ∀ b, R' b → R b ∨ w.heap.size ≤ b ∨ ∃ k, Owned φ σ b k) (hx : Ext φ φ') (h : Rel (Owned φ σ) w R' φ' σ' f tmps w') : Turn R φ σ w R' φ' σ' w' :=
  ⟨hR, hR', hx, h.sim, fun b k ⟨l, B, e, hw⟩ => h.reg l B e b k hw, h.keep⟩

/-- On by a piece. -/
theorem Holds.step {E : Ent} {f : List AV} {σ σ' : St} {a : Act} {w w' : World} {R R' : Nat → Prop} {φ φ' : Phi} (ht : Turn E.R E.φ E.σ E.W R φ σ w) (hl : f.length = a.tmps.size) (hf : ∀ (t : Nat) (u : AV), f[t]? = some u → VR R φ w u (a.tmps.getD t undef)) (hm : Marks E.W a.defers w)
    (h : Turn R φ σ w R' φ' σ' w') {u : AV} {v : Value} (hv : VR R' φ' w' u v) (d : Option Nat) : Holds E (match d with | some d => f.set d u | none => f) σ' (a.put d v) w' := by
  have hf' : ∀ (t : Nat) (u : AV), f[t]? = some u → VR R' φ' w' u (a.tmps.getD t undef) := fun t u hu => h.vr ht.sim (hf t u hu)
  have hm' := hm.keep ht.sim h.keep
  cases d with
  | none => exact ⟨R', φ', ht.trans h, hl, hf', hm'⟩
  | some d =>
    have hr := (localRel (R := R') (φ := φ') (σ := σ') h.sim hl hf').put hv d
    exact ⟨R', φ', ht.trans h, hr.len, hr.fr, hm'⟩

/-! ### Functions -/
/-- What a call does: a condition, its value, and the roots behind it. -/
abbrev Ctr := List AV → St → Option (Bool × AV × St)
abbrev Ctrs := List (Nat × Ctr)
def ctr (cs : Ctrs) (g : Nat) : Option Ctr := match cs.find? fun p => Nat.beq p.1 g with | some p => some p.2 | none => none

def Callable (P : Program) (g : Nat) : Prop := ∃ fn, P.funcs[g]? = some fn ∧ (fn.name == "runtime.NumGoroutine") = false ∧ fn.body.isNone = false
/-- A row of values by a row of abstract ones. -/
def VRs (R : Nat → Prop) (φ : Phi) (W : World) (us : List AV) (vs : List Value) : Prop := us.length = vs.length ∧ ∀ (k : Nat) (u : AV) (x : Value), us[k]? = some u → vs[k]? = some x → VR R φ W u x

/-- A contract holds. -/
structure CtrOk (P : Program) (g : Nat) (G : Ctr) : Prop where
  callable : Callable P g
  ok : ∀ {args : List AV} {σ : St} {u : AV} {σ' : St}, G args σ = some (true, u, σ') → ∀ {R : Nat → Prop} {φ : Phi} {W : World}, Sim R φ σ W → ∀ {vals : List Value}, VRs R φ W args vals →
    Calls P g vals.toArray W fun e W' => ∃ v R' φ', e = .returned v ∧ Turn R φ σ W R' φ' σ' W' ∧ VR R' φ' W' u v

def CtrsOk (P : Program) (cs : Ctrs) : Prop := ∀ p ∈ cs, CtrOk P p.1 p.2
theorem ctr_ok {P : Program} {cs : Ctrs} (h : CtrsOk P cs) {g : Nat} {G : Ctr} (hg : ctr cs g = some G) : CtrOk P g G := by
  unfold ctr at hg
  split at hg
  · rename_i p hp
    obtain rfl := Option.some.inj hg
    have h1 := List.find?_some hp
    have h1 := Nat.eq_of_beq_eq_true h1
    rw [← h1]
    exact h p (List.mem_of_find?_eq_some hp)
  · cases hg

def tr : Option Prop → Prop
  | some p => p
  | none => False
/-- A round of a loop over a function: with what it is called, from what on, what goes on behind. -/
abbrev YT := List AV → St → (AV → St → Option Prop) → Option Prop
abbrev YE := Nat → Option YT
def YOk (P : Program) (R : Nat → Prop) (φ : Phi) (σ : St) (W : World) (Y : YE) : Prop :=
  ∀ l T, Y l = some T → ∃ b, φ l = some (some (b, 0)) ∧ ∀ {R1 : Nat → Prop} {φ1 : Phi} {σ1 : St} {W1 : World}, Turn R φ σ W R1 φ1 σ1 W1 → ∀ {args : List AV} {vals : List Value}, VRs R1 φ1 W1 args vals → ∀ {K : AV → St → Option Prop}, tr (T args σ1 K) →
    YieldAt Fence.wide 0 P b vals.toArray W1 fun e W' => ∃ u σ' v R' φ', e = .returned v ∧ Turn R1 φ1 σ1 W1 R' φ' σ' W' ∧ VR R' φ' W' u v ∧ tr (K u σ')
theorem YOk.later {P : Program} {R R1 : Nat → Prop} {φ φ1 : Phi} {σ σ1 : St} {W W1 : World} {Y : YE} (h : YOk P R φ σ W Y) (ht : Turn R φ σ W R1 φ1 σ1 W1) : YOk P R1 φ1 σ1 W1 Y := fun l T hT => by
  obtain ⟨b, e, g⟩ := h l T hT
  exact ⟨b, ht.ext _ _ e, fun ht' _ _ hv _ hk => g (ht.trans ht') hv hk⟩
theorem YOk.none (P : Program) (R : Nat → Prop) (φ : Phi) (σ : St) (W : World) : YOk P R φ σ W fun _ => none := fun _ _ h => by cases h

/-- A call, with what goes on behind it. -/
abbrev Run := List AV → St → YE → (AV → St → Option Prop) → Option Prop
abbrev Runs := List (Nat × Run)
def run (ks : Runs) (g : Nat) : Option Run := match ks.find? fun p => Nat.beq p.1 g with | some p => some p.2 | none => none
structure RunOk (P : Program) (g : Nat) (T : Run) : Prop where
  callable : Callable P g
  ok : ∀ {args : List AV} {σ : St} {Y : YE} {K : AV → St → Option Prop}, tr (T args σ Y K) → ∀ {R : Nat → Prop} {φ : Phi} {W : World}, Sim R φ σ W → YOk P R φ σ W Y → ∀ {vals : List Value}, VRs R φ W args vals →
    Calls P g vals.toArray W fun e W' => ∃ u σ' v R' φ', e = .returned v ∧ Turn R φ σ W R' φ' σ' W' ∧ VR R' φ' W' u v ∧ tr (K u σ')
def RunsOk (P : Program) (ks : Runs) : Prop := ∀ p ∈ ks, RunOk P p.1 p.2
theorem run_ok {P : Program} {ks : Runs} (h : RunsOk P ks) {g : Nat} {T : Run} (hg : run ks g = some T) : RunOk P g T := by
  unfold run at hg
  split at hg
  · rename_i p hp
    obtain rfl := Option.some.inj hg
    have h1 := List.find?_some hp
    have h1 := Nat.eq_of_beq_eq_true h1
    rw [← h1]
    exact h p (List.mem_of_find?_eq_some hp)
  · cases hg
end Go.Proofs.Ythdeehkmlaejfaa.E
/- The engine, part 17: regions whose order is the text's, and calls. -/
namespace Go.Proofs.Ythdeehkmlaejfaa.E
open Go
set_option linter.unusedSimpArgs false
set_option linter.unusedVariables false
noncomputable section

def put1 (f : List AV) (d : Option Nat) (u : AV) : List AV := match d with | some d => f.set d u | none => f

/-- The value of an operation, if it is to be done. -/
def doV (tt : List TE) (cs : Ctrs) (o : Oper) (f : List AV) (σ : St) : Option (AV × St) :=
  match o.op with
  | .pick c a b => match ev f c with
    | .v (.bool x) => cond x (some (ev f a, σ)) (some (ev f b, σ))
    | _ => none
  | .call { callee := .value g, args := args, .. } => match ev f g with
    | .f (.func g) us ks => match ctr cs g with
      | some G => match G (us ++ args.toList.map (ev f) ++ ks) σ with
        | some (c, u, σ') => cond c (some (u, σ')) none
        | none => none
      | none => none
    | _ => none
  | op => match aOp tt op f σ with
    | some (c, u, σ') => cond c (some (u, σ')) none
    | none => none

/-- What a guard hangs on: a boolean, or nothing where it was passed over itself. -/
def gval (ops : List Oper) (f : List AV) (j : Nat) : Option (Option Bool) :=
  match ops[j]? with
  | some o => match o.dst with
    | some d => match f.getD d .dead with
      | .v (.bool b) => some (some b)
      | .v (.tuple _) => some none
      | _ => none
    | none => none
  | none => none

def cnd {α : Type} (want b : Bool) (x y : α) : α := match want with | true => cond b x y | false => cond b y x
theorem cnd_eq {α : Type} (want b : Bool) (x y : α) : cnd want b x y = cond (b == want) x y := by cases b <;> cases want <;> rfl

def valF (tt : List TE) (cs : Ctrs) (ops : List Oper) (o : Oper) (f : List AV) (σ : St) : Option (AV × St) :=
  match o.guard with
  | none => doV tt cs o f σ
  | some (j, want) => match gval ops f j with
    | some (some b) => cnd want b (doV tt cs o f σ) (some (.v undef, σ))
    | some none => some (.v undef, σ)
    | none => none

def stepF (tt : List TE) (cs : Ctrs) (ops : List Oper) (o : Oper) (f : List AV) (σ : St) : Option (List AV × St) :=
  match valF tt cs ops o f σ with
  | some (u, σ') => some (put1 f o.dst u, σ')
  | none => none

def opsF (tt : List TE) (cs : Ctrs) (ops : List Oper) : List Oper → List AV → St → Option (List AV × St)
  | [], f, σ => some (f, σ)
  | o :: l, f, σ => match stepF tt cs ops o f σ with
    | some (f', σ') => opsF tt cs ops l f' σ'
    | none => none

/-- A list, written out (for the kernel's sake). -/
def normL {α β : Type} : List β → (List β → α) → α
  | [], K => K []
  | x :: l, K => normL l fun l' => K (x :: l')
theorem normL_eq {α β : Type} : ∀ (l : List β) (K : List β → α), normL l K = K l
  | [], _ => rfl
  | _ :: l, K => normL_eq l _
def setK {α β : Type} : List β → Nat → β → (List β → α) → α
  | [], _, _, K => K []
  | _ :: l, 0, u, K => K (u :: l)
  | x :: l, d + 1, u, K => setK l d u fun l' => K (x :: l')
theorem setK_eq {α β : Type} : ∀ (l : List β) (d : Nat) (u : β) (K : List β → α), setK l d u K = K (l.set d u)
  | [], _, _, _ => rfl
  | _ :: _, 0, _, _ => rfl
  | _ :: l, d + 1, u, K => setK_eq l d u _
/-- A value, written out. -/
def forceK {α : Type} (u : AV) (K : AV → α) : α :=
  match u with
  | .v x => K (.v x)
  | .p l o => K (.p l o)
  | .q l sz i j => K (.q l sz i j)
  | .s l sz o n => K (.s l sz o n)
  | .i sz n get => K (.i sz n get)
  | .ip cs j => K (.ip cs j)
  | .a cs => normL cs fun cs => K (.a cs)
  | .t cs => normL cs fun cs => K (.t cs)
  | .f fn us cs => normL us fun us => normL cs fun cs => K (.f fn us cs)
  | .y l => K (.y l)
  | .mp l => K (.mp l)
  | .z => K .z
  | .dead => K .dead
theorem forceK_eq {α : Type} (u : AV) (K : AV → α) : forceK u K = K u := by
  cases u <;> simp only [forceK, normL_eq]
def putK {α : Type} (f : List AV) (d : Option Nat) (u : AV) (σ : St) (K : List AV → St → α) : α :=
  match d with
  | some d => forceK u fun u => setK f d u fun f' => normL σ fun σ' => K f' σ'
  | none => normL σ fun σ' => K f σ'
theorem putK_eq {α : Type} (f : List AV) (d : Option Nat) (u : AV) (σ : St) (K : List AV → St → α) : putK f d u σ K = K (put1 f d u) σ := by
  cases d with
  | none => simp only [putK, put1, normL_eq]
  | some d => simp only [putK, put1, setK_eq, normL_eq, forceK_eq]

/-- A slice is asked whether it is nil: of how many elements it is (one with none may be nil, and may not). -/
def nilQ (tt : List TE) (op : Op) (f : List AV) : Option Nat :=
  match op with
  | .binOp .eql t x (.const (.slice none 0 0)) _ => match look tt t with
    | some e => match e.td with
      | .slice _ => match ev f x with
        | .s _ _ _ n => some n
        | .i _ n _ => some n
        | _ => none
      | _ => none
    | none => none
  | _ => none
/-- An iterator over a map is asked for the next entry. -/
def nextQ (op : Op) (f : List AV) (σ : St) : Option (Nat × Nat × Nat × List Nat × List MapEntry × Nat × Bool) :=
  match op with
  | .next x false => match ev f x with
    | .p m 0 => match σ[m]? with
      | some (.iter l since seen st) => match σ[l]? with
        | some (.map es c) => some (m, l, since, seen, es, c, es.all (fun e => Nat.blt e.born since) && Nat.ble since st)
        | _ => none
      | _ => none
    | _ => none
  | _ => none
/-- How many entries a map has. -/
def lenQ (tt : List TE) (op : Op) (f : List AV) (σ : St) : Option Nat :=
  match op with
  | .call { callee := .builtin .len, args := args, argTypes := ats } => match ats.toList, args.toList with
    | [t], [x] => match aMapLen tt t (ev f x) σ with
      | some (_, .v (.int .i64 (.ofNat n))) => some n
      | _ => none
    | _, _ => none
  | _ => none
/-- The same, with what goes on behind it; Y: the rounds that may be called. -/
def doK (tt : List TE) (cs : Ctrs) (ks : Runs) (Y : YE) (o : Oper) (f : List AV) (σ : St) (K : List AV → St → Option Prop) : Option Prop :=
  match o.op with
  | .pick c a b => match ev f c with
    | .v (.bool x) => cond x (putK f o.dst (ev f a) σ K) (putK f o.dst (ev f b) σ K)
    | _ => none
  | .call { callee := .value g, args := args, .. } => match ev f g with
    | .f (.func g) us ls => match ctr cs g with
      | some G => match G (us ++ args.toList.map (ev f) ++ ls) σ with
        | some (c, u, σ') => cond c (putK f o.dst u σ' K) none
        | none => none
      | none => match run ks g with
        | some T => normL (us ++ args.toList.map (ev f) ++ ls) fun as => T as σ Y fun u σ' => putK f o.dst u σ' K
        | none => none
    | .y l => match Y l with
      | some T => normL (args.toList.map (ev f)) fun as => T as σ fun u σ' => putK f o.dst u σ' K
      | none => none
    | _ => none
  | op => match aOp tt op f σ with
    | some (c, u, σ') => cond c (putK f o.dst u σ' K) none
    | none => match nilQ tt op f with
      | some n => some (tr (putK f o.dst (.v (.bool false)) σ K) ∧ (n = 0 → tr (putK f o.dst (.v (.bool true)) σ K)))
      | none => match nextQ op f σ with
        | some (m, l, since, seen, es, c, ok) => some (ok = true ∧ (leftE es seen = [] → tr (putK f o.dst (.t [.v (.bool false)]) σ K)) ∧
            ∀ e, e ∈ leftE es seen → tr (putK f o.dst (.t [.v (.bool true), .v e.key, .v e.val]) (σ.set m (.iter l since (seen ++ [e.born]) c)) K))
        | none => match lenQ tt op f σ with
          | some n => putK f o.dst (.v (.int .i64 (n : Int))) σ K
          | none => none
def stepK (tt : List TE) (cs : Ctrs) (ks : Runs) (Y : YE) (ops : List Oper) (o : Oper) (f : List AV) (σ : St) (K : List AV → St → Option Prop) : Option Prop :=
  match o.guard with
  | none => doK tt cs ks Y o f σ K
  | some (j, want) => match gval ops f j with
    | some (some b) => cnd want b (doK tt cs ks Y o f σ K) (putK f o.dst (.v undef) σ K)
    | some none => putK f o.dst (.v undef) σ K
    | none => none
def opsK (tt : List TE) (cs : Ctrs) (ks : Runs) (Y : YE) (ops : List Oper) : List Oper → List AV → St → (List AV → St → Option Prop) → Option Prop
  | [], f, σ, K => K f σ
  | o :: l, f, σ, K => stepK tt cs ks Y ops o f σ fun f' σ' => opsK tt cs ks Y ops l f' σ' K

theorem Act.eta (a : Act) : a = ⟨a.tmps, a.defers⟩ := by cases a; rfl

theorem gval_ok {R : Nat → Prop} {φ : Phi} {f : List AV} {tmps : Array Value} {w : World} (hlen : f.length = tmps.size) (hf : ∀ (t : Nat) (u : AV), f[t]? = some u → VR R φ w u (tmps.getD t undef)) {ops : Array Oper} {j : Nat} {b : Option Bool} (hg : gval ops.toList f j = some b) : yielded ops tmps j = b := by
  unfold gval at hg
  split at hg
  · rename_i o ho
    split at hg
    · rename_i d hd
      have ho' : ops[j]? = some o := by rw [← ho]; simp
      have hp : ∀ x, f.getD d .dead = .v x → tmps[d]? = some x := fun x hb => by
        have hv := hf d (.v x) (by
          rw [List.getD_eq_getElem?_getD] at hb
          cases hk : f[d]? with
          | none => rw [hk] at hb; cases hb
          | some u => rw [hk] at hb; simp only [Option.getD_some] at hb; rw [hb])
        have hlt : d < tmps.size := by
          rw [← hlen]
          rcases Nat.lt_or_ge d f.length with g | g
          · exact g
          · rw [List.getD_eq_getElem?_getD, List.getElem?_eq_none g] at hb; cases hb
        have := hv.val
        rw [Array.getD_eq_getD_getElem?, Array.getElem?_eq_getElem hlt] at this
        simp only [Option.getD_some] at this
        rw [Array.getElem?_eq_getElem hlt, this]
      split at hg
      · rename_i b' hb
        obtain rfl := Option.some.inj hg
        unfold yielded
        simp only [ho', Option.bind_some, hd, hp _ hb]
      · rename_i xs hb
        obtain rfl := Option.some.inj hg
        unfold yielded
        simp only [ho', Option.bind_some, hd, hp _ hb]
      · cases hg
    · cases hg
  · cases hg

/-- An operation that is no defer, by what it answers. -/
theorem owp_value {P : Program} {r : Option Nat} {o : Oper} {a : Act} {w w' : World} {nx : Next} {v : Value} (hnd : ∀ c, o.op ≠ .defer c) (h : (execOp a.eval o).run P w = .ok nx w') (hy : Yields nx v) {next : Act → World → Prop} {Q : Exit → Act → World → Prop}
    (hn : next (a.put o.dst v) w') : o.wpIn (fen r) 0 P a w next Q := by
  refine ⟨fun f _ => fen_fn r f, ?_⟩
  rw [fen_round, Oper.semAt_eq _ _ _ hnd, h]
  rcases hy with rfl | ⟨rfl, rfl⟩ <;> exact hn
theorem owp_enter {P : Program} {r : Option Nat} {o : Oper} {a : Act} {w : World} {g : Nat} {args : Array Value} (hnd : ∀ c, o.op ≠ .defer c) (h : (execOp a.eval o).run P w = .ok (.enter g args) w) {next : Act → World → Prop} {Q : Exit → Act → World → Prop}
    (hn : Calls P g args w fun e w' => ∃ v, e = .returned v ∧ next (a.put o.dst v) w') : o.wpIn (fen r) 0 P a w next Q := by
  refine ⟨fun f _ => fen_fn r f, ?_⟩
  rw [fen_round, Oper.semAt_eq _ _ _ hnd, h]
  refine ⟨fun h => fen_depth r h, callsIn_fen.2 (hn.mono ?_)⟩
  rintro e w' ⟨v, rfl, hn⟩
  exact hn
theorem owp_round {P : Program} {r : Option Nat} {o : Oper} {a : Act} {w : World} {b : Nat} {args : Array Value} (hnd : ∀ c, o.op ≠ .defer c) (h : (execOp a.eval o).run P w = (Instr.yield b args).run P w) {next : Act → World → Prop} {Q : Exit → Act → World → Prop}
    (hn : YieldAt Fence.wide 0 P b args w fun e w' => ∃ v, e = .returned v ∧ next (a.put o.dst v) w') : o.wpIn (fen r) 0 P a w next Q := by
  obtain ⟨fn, tmps, assign, body, hy, hr⟩ := hn
  refine ⟨fun f _ => fen_fn r f, ?_⟩
  rw [fen_round, Oper.semAt_eq _ _ _ hnd, h, hy]
  refine ⟨fun h => fen_depth r h, ?_⟩
  have hr' : RoundIn Fence.wide (0 - 1) P b fn tmps assign body w (fun | .returned v, w'' => next (a.put o.dst v) w'' | .panicked chain, w'' => Q (.panic chain) a w'' | .outgrown, _ => LetsOut Q) := hr.mono fun e w' => by
    rintro ⟨v, rfl, hn⟩; exact hn
  cases r <;> exact hr'

theorem ev_frame {R : Nat → Prop} {φ : Phi} {σ : St} {f : List AV} {a : Act} {w : World} (hs : Sim R φ σ w) (hl : f.length = a.tmps.size) (hf : ∀ (t : Nat) (u : AV), f[t]? = some u → VR R φ w u (a.tmps.getD t undef)) (x : Operand) : VR R φ w (ev f x) (a.eval x) := by
  have := ev_ok (localRel hs hl hf) a.defers x
  rwa [← Act.eta] at this
theorem evs_frame {R : Nat → Prop} {φ : Phi} {σ : St} {f : List AV} {a : Act} {w : World} (hs : Sim R φ σ w) (hl : f.length = a.tmps.size) (hf : ∀ (t : Nat) (u : AV), f[t]? = some u → VR R φ w u (a.tmps.getD t undef)) (xs : List Operand) : VRs R φ w (xs.map (ev f)) (xs.map a.eval) := by
  have := map_rel (localRel hs hl hf) a.defers xs
  rwa [← Act.eta] at this
theorem VRs.append {R : Nat → Prop} {φ : Phi} {W : World} {us us' : List AV} {vs vs' : List Value} (h : VRs R φ W us vs) (h' : VRs R φ W us' vs') : VRs R φ W (us ++ us') (vs ++ vs') := by
  refine ⟨by simp [h.1, h'.1], fun k u x hu hx => ?_⟩
  rw [List.getElem?_append] at hu hx
  rw [← h.1] at hx
  split at hu
  · rename_i hk; rw [if_pos hk] at hx; exact h.2 k u x hu hx
  · rename_i hk; rw [if_neg hk] at hx; exact h'.2 _ u x hu hx

section
variable {P : Program} {tt : List TE} (ht : TTok P tt) {cs : Ctrs} (hcs : CtrsOk P cs)
include ht hcs

omit ht hcs in
/-- A function that is called. -/
theorem call_run {R : Nat → Prop} {φ : Phi} {σ : St} {f : List AV} {a : Act} {w : World} (hs : Sim R φ σ w) (hl : f.length = a.tmps.size) (hf : ∀ (t : Nat) (u : AV), f[t]? = some u → VR R φ w u (a.tmps.getD t undef)) {o : Oper} {g : Operand} {args : Array Operand} {ats : Array TypeId}
    (hop : o.op = .call { callee := .value g, args := args, argTypes := ats }) {g' : Nat} {us ks : List AV} (hg : ev f g = .f (.func g') us ks) (hc : Callable P g') :
    ∃ vals : List Value, (execOp a.eval o).run P w = .ok (.enter g' vals.toArray) w ∧ VRs R φ w (us ++ args.toList.map (ev f) ++ ks) vals := by
  obtain ⟨fn, hfn, hnm, hbody⟩ := hc
  have hv := ev_frame hs hl hf g
  rw [hg] at hv
  obtain ⟨uv, kv, hval, h1, h2⟩ : ∃ uv kv : List Value, a.eval g = .func (.func g') uv.toArray kv.toArray ∧ VRs R φ w us uv ∧ VRs R φ w ks kv := by
    generalize a.eval g = v at hv
    cases hv with
    | imm hi => cases hi
    | f h1 h2 h3 h4 => exact ⟨_, _, rfl, ⟨h1, h2⟩, ⟨h3, h4⟩⟩
  have h3 := evs_frame hs hl hf args.toList
  refine ⟨uv ++ args.toList.map a.eval ++ kv, ?_, (h1.append h3).append h2⟩
  obtain ⟨dst, op, type, pos, after, guard⟩ := o
  simp only at hop
  subst hop
  simp only [execOp, resolve, hval, Deferred.ofValue]
  simp only [Sem.run_bind, Sem.run_pure, Result.andThen_ok, invoke]
  have hargs : args.map a.eval = (args.toList.map a.eval).toArray := by rw [← Array.toList_map]
  rw [hargs]
  unfold callFunc
  simp only [Sem.run_bind, run_program, Result.andThen_ok, hfn, hnm, hbody, Bool.false_eq_true, if_false, Sem.run_pure]
  simp

/-- What an operation comes to. -/
theorem doV_ok {E : Ent} {r : Option Nat} {o : Oper} {f : List AV} {σ : St} {a : Act} {w : World} (h : Holds E f σ a w) {u : AV} {σ' : St} (hr : doV tt cs o f σ = some (u, σ')) {next : Act → World → Prop} {Q : Exit → Act → World → Prop}
    (hn : ∀ a' w', Holds E (put1 f o.dst u) σ' a' w' → next a' w') : o.wpIn (fen r) 0 P a w next Q := by
  obtain ⟨R, φ, hT, hl, hf, hm⟩ := h
  have hs := hT.sim
  unfold doV at hr
  split at hr
  · rename_i c x y hop
    split at hr
    · rename_i b hb
      have hc := ev_frame hs hl hf c
      rw [hb] at hc
      have hc := hc.val
      have e : (execOp a.eval o).run P w = .ok (.value (if b then a.eval x else a.eval y)) w := by
        obtain ⟨dst, op, type, pos, after, guard⟩ := o
        simp only at hop
        subst hop
        simp only [execOp, hc]
        simp [asBool]
      refine owp_value (fun c h => by rw [hop] at h; cases h) e (.inl rfl) (hn _ _ ?_)
      cases b
      · simp only [cond, Option.some.injEq, Prod.mk.injEq] at hr
        obtain ⟨rfl, rfl⟩ := hr
        exact Holds.step hT hl hf hm (Turn.refl hs) (ev_frame hs hl hf y) _
      · simp only [cond, Option.some.injEq, Prod.mk.injEq] at hr
        obtain ⟨rfl, rfl⟩ := hr
        exact Holds.step hT hl hf hm (Turn.refl hs) (ev_frame hs hl hf x) _
    · cases hr
  · rename_i g args ats hop
    split at hr
    case h_2 => cases hr
    rename_i g' us ks hg
    split at hr
    case h_2 => cases hr
    rename_i G hG
    split at hr
    case h_2 => cases hr
    rename_i c0 u0 σ0 hr0
    have hr : G (us ++ args.toList.map (ev f) ++ ks) σ = some (true, u, σ') := by
      cases c0 with
      | false => cases hr
      | true =>
        simp only [cond, Option.some.injEq, Prod.mk.injEq] at hr
        obtain ⟨rfl, rfl⟩ := hr
        exact hr0
    obtain ⟨hcal, hok⟩ := ctr_ok hcs hG
    obtain ⟨vals, e, hv⟩ := call_run hs hl hf hop hg hcal
    refine owp_enter (fun c h => by rw [hop] at h; cases h) e ((hok hr hs hv).mono ?_)
    rintro e' w' ⟨v, R1, φ', rfl, ht', hv'⟩
    exact ⟨v, rfl, hn _ _ (Holds.step hT hl hf hm ht' hv' _)⟩
  · rename_i op hnp hnc
    split at hr
    case h_2 => cases hr
    rename_i c u1 σ1 ha
    cases c with
    | false => cases hr
    | true =>
      simp only [cond, Option.some.injEq, Prod.mk.injEq] at hr
      obtain ⟨rfl, rfl⟩ := hr
      obtain ⟨nx, v, W', φ', h1, h2, h3, h4, h5⟩ := aOp_ok ht (localRel hs hl hf) a.defers ha rfl
      rw [← Act.eta] at h1
      exact owp_value (fun c h => by rw [h] at ha; simp [aOp] at ha) h1 h2 (hn _ _ (Holds.step hT hl hf hm (turn_of_rel (fun _ h => h) (fun _ h => .inl h) h3 h4) h5 _))

/-- A step, where the operation is the one that stands there. -/
theorem stepF_ok {E : Ent} {r : Option Nat} {ops : Array Oper} {o : Oper} {f : List AV} {σ : St} {a : Act} {w : World} (h : Holds E f σ a w) {f' : List AV} {σ' : St} (hs : stepF tt cs ops.toList o f σ = some (f', σ')) {next : Act → World → Prop} {Q : Exit → Act → World → Prop}
    (hn : ∀ a' w', Holds E f' σ' a' w' → next a' w') : if Region.wanted o (yielded ops a.tmps) then o.wpIn (fen r) 0 P a w next Q else (∀ f, o.about P w a.eval = some f → (fen r).fn f) ∧ next (a.put o.dst undef) w := by
  unfold stepF at hs
  split at hs
  case h_2 => cases hs
  rename_i u σ1 hv
  simp only [Option.some.injEq, Prod.mk.injEq] at hs
  obtain ⟨rfl, rfl⟩ := hs
  have h0 := h
  obtain ⟨R, φ, hT, hl, hf, hm⟩ := h
  unfold valF at hv
  cases hgd : o.guard with
  | none =>
    simp only [hgd] at hv
    rw [if_pos (by simp [Region.wanted, hgd])]
    exact doV_ok ht hcs h0 hv hn
  | some jw =>
    obtain ⟨j, want⟩ := jw
    simp only [hgd] at hv
    cases hgv : gval ops.toList f j with
    | none => simp [hgv] at hv
    | some b =>
      have hy := gval_ok hl hf hgv
      cases b with
      | none =>
        simp only [hgv, Option.some.injEq, Prod.mk.injEq] at hv
        obtain ⟨rfl, rfl⟩ := hv
        rw [if_neg (by simp [Region.wanted, hgd, hy])]
        exact ⟨fun f _ => fen_fn r f, hn _ _ (Holds.step hT hl hf hm (Turn.refl hT.sim) (.imm (.v _)) _)⟩
      | some b =>
      simp only [hgv, cnd_eq] at hv
      cases hbw : (b == want) with
      | true =>
        simp only [hbw, cond] at hv
        rw [if_pos (by simp only [Region.wanted, hgd, hy]; simpa using hbw)]
        exact doV_ok ht hcs h0 hv hn
      | false =>
        simp only [hbw, cond, Option.some.injEq, Prod.mk.injEq] at hv
        obtain ⟨rfl, rfl⟩ := hv
        rw [if_neg (by simp only [Region.wanted, hgd, hy]; simpa using hbw)]
        exact ⟨fun f _ => fen_fn r f, hn _ _ (Holds.step hT hl hf hm (Turn.refl hT.sim) (.imm (.v _)) _)⟩

variable {ks : Runs} (hks : RunsOk P ks)
include hks

omit hcs hks in
theorem lenQ_ok {R : Nat → Prop} {φ : Phi} {σ : St} {f : List AV} {a : Act} {w : World} (hs : Sim R φ σ w) (hl : f.length = a.tmps.size) (hf : ∀ (t : Nat) (u : AV), f[t]? = some u → VR R φ w u (a.tmps.getD t undef)) {o : Oper} {n : Nat} (hn : lenQ tt o.op f σ = some n) :
    (execOp a.eval o).run P w = .ok (.value (.int .i64 (n : Int))) w ∧ ∀ c, o.op ≠ .defer c := by
  unfold lenQ at hn
  split at hn
  case h_2 => cases hn
  rename_i args ats hop
  refine ⟨?_, fun c h => by rw [hop] at h; cases h⟩
  split at hn
  case h_2 => cases hn
  rename_i t x ht' hx'
  split at hn
  case h_2 => cases hn
  rename_i c0 m ha
  obtain rfl := Option.some.inj hn
  obtain ⟨y, e1, e2⟩ := aMapLen_ok (ty := o.type) ht hs (ev_frame hs hl hf x) ha
  have e2 := e2.val
  obtain ⟨dst, op, type, pos, after, guard⟩ := o
  simp only at hop
  subst hop
  have hargs : args.map a.eval = (args.toList.map a.eval).toArray := by rw [← Array.toList_map]
  have hat : ats = #[t] := by rw [← ht']
  simp only [execOp, resolve, Sem.run_bind, Sem.run_pure, Result.andThen_ok, invoke, hargs, hx', List.map_cons, List.map_nil, hat]
  rw [e2] at e1
  exact run_v e1
omit ht hcs hks in
theorem nextQ_ok {R : Nat → Prop} {φ : Phi} {σ : St} {f : List AV} {a : Act} {w : World} (hs : Sim R φ σ w) (hl : f.length = a.tmps.size) (hf : ∀ (t : Nat) (u : AV), f[t]? = some u → VR R φ w u (a.tmps.getD t undef)) {o : Oper} {m l since : Nat} {seen : List Nat} {es : List MapEntry} {c : Nat} {ok : Bool} (hn : nextQ o.op f σ = some (m, l, since, seen, es, c, ok)) (hok : ok = true) :
    ∃ nx v W' u σ', (execOp a.eval o).run P w = .ok nx W' ∧ Yields nx v ∧ ((u = .t [.v (.bool false)] ∧ σ' = σ ∧ leftE es seen = []) ∨ ∃ e ∈ leftE es seen, u = .t [.v (.bool true), .v e.key, .v e.val] ∧ σ' = σ.set m (.iter l since (seen ++ [e.born]) c)) ∧ (Turn R φ σ w R φ σ' W' ∧ VR R φ W' u v) := by
  unfold nextQ at hn
  split at hn
  case h_2 => cases hn
  rename_i x hop
  split at hn
  case h_2 => cases hn
  rename_i m' hx
  split at hn
  case h_2 => cases hn
  rename_i l' since' seen' st hm
  split at hn
  case h_2 => cases hn
  rename_i es' c' hl'
  simp only [Option.some.injEq, Prod.mk.injEq] at hn
  obtain ⟨rfl, rfl, rfl, rfl, rfl, rfl, rfl⟩ := hn
  simp only [Bool.and_eq_true] at hok
  obtain ⟨b, hb, hh⟩ := hs.blk _ _ hl'
  obtain ⟨r, bm, hr, hbm, hit⟩ := hs.blk _ _ hm
  rw [hb] at hbm
  obtain ⟨rfl, _⟩ := Prod.mk.inj (Option.some.inj (Option.some.inj hbm))
  have hv := ev_frame hs hl hf x
  rw [hx] at hv
  have hval : a.eval x = .pointer (some ⟨r, 0, none⟩) := by
    generalize a.eval x = v at hv
    cases hv with
    | imm hi => cases hi
    | p h1 =>
      rw [hr] at h1
      obtain ⟨rfl, rfl⟩ := Prod.mk.inj (Option.some.inj (Option.some.inj h1))
      rfl
  obtain ⟨dst, op, type, pos, after, guard⟩ := o
  simp only at hop
  subst hop
  rcases run_next (P := P) type hit hh hok.1 hok.2 with ⟨h0, hrun⟩ | ⟨e, he, w1, hw1, hrun⟩
  · refine ⟨_, _, w, _, σ, ?_, .inl rfl, .inl ⟨rfl, rfl, h0⟩, Turn.refl hs, .t (cells := [.v (.bool false)]) (vs := [.bool false]) rfl fun k u x hu hx => ?_⟩
    · simp only [execOp, hval]
      exact run_v hrun
    · rcases k with _ | k
      · simp at hu hx; subst hu hx; exact .imm (.v _)
      · simp at hu
  · refine ⟨.value (.tuple #[.bool true, e.key, e.val]), .tuple #[.bool true, e.key, e.val], w1.putObj r (.mapIter (some b) since' (seen' ++ [e.born]).toArray c'), .t [.v (.bool true), .v e.key, .v e.val], σ.set m' (.iter l' since' (seen' ++ [e.born]) c'), ?_, .inl rfl, .inr ⟨e, he, rfl, rfl⟩, ?_, .t (cells := [.v (.bool true), .v e.key, .v e.val]) (vs := [.bool true, e.key, e.val]) rfl fun k u x hu hx => ?_⟩
    · simp only [execOp, hval]
      exact run_v hrun
    · have hk1 : Keep (fun _ _ => False) w w1 := by rcases hw1 with rfl | rfl; exact Keep.refl _ _; exact Keep.drew _ _
      have hh1 : w1.heap = w.heap := by rcases hw1 with rfl | rfl <;> rfl
      have hit1 : w1.heap[r]? = some (.mapIter (some b) since' seen'.toArray st) := by rw [hh1]; exact hit
      have h : Rel (Owned φ σ) w R φ σ [] #[] w := localRel hs rfl fun t u h => by simp at h
      have hk : Keep (fun b' _ => b' = r) w (w1.putObj r (.mapIter (some b) since' (seen' ++ [e.born]).toArray c')) := (hk1.mono fun _ _ h => h.elim).trans (Keep.putMap hit1 (fun _ _ _ e => by cases e) fun _ e => by cases e) fun _ _ h => .inl h
      refine turn_of_rel (fun _ h => h) (fun _ h => .inl h) (Ext.refl _) (Rel.turn h (l := m') (src := m') (B' := .iter l' since' (seen' ++ [e.born]) c') (σ' := σ.set m' _) hk (Ext.refl _) (fun _ _ h => h) (fun b' k hg => ⟨_, hm, by subst hg; exact hr⟩) ⟨r, b, hr, hb, World.putObj_heap_same (Array.getElem?_eq_some_iff.1 hit1).1⟩ (fun b' k hg => .inl ⟨_, hm, hg⟩) (fun m2 B0 hm2 => ?_) fun m2 hm2 => hs.dom m2 (by simpa using hm2))
      by_cases hne : m2 = m'
      · subst hne; exact .inl ⟨rfl, set_get_self hm2⟩
      · exact .inr (.inr ⟨hne, hne, set_get hm2 hne⟩)
    · rcases k with _ | _ | _ | k
      · simp at hu hx; subst hu hx; exact .imm (.v _)
      · simp at hu hx; subst hu hx; exact .imm (.v _)
      · simp at hu hx; subst hu hx; exact .imm (.v _)
      · simp at hu
omit hcs hks in
theorem nilQ_ok {R : Nat → Prop} {φ : Phi} {σ : St} {f : List AV} {a : Act} {w : World} (hs : Sim R φ σ w) (hl : f.length = a.tmps.size) (hf : ∀ (t : Nat) (u : AV), f[t]? = some u → VR R φ w u (a.tmps.getD t undef)) {o : Oper} {n : Nat} (hn : nilQ tt o.op f = some n) :
    ∃ b : Bool, (execOp a.eval o).run P w = .ok (.value (.bool b)) w ∧ (b = true → n = 0) := by
  unfold nilQ at hn
  split at hn
  case h_2 => cases hn
  rename_i t x t' hop
  split at hn
  case h_2 => cases hn
  rename_i e he
  split at hn
  case h_2 => cases hn
  rename_i el htd
  have hlk := (look_ok ht he).1
  rw [htd] at hlk
  have hlk : P.underlying t = some (.slice el) := hlk
  have hv := ev_frame hs hl hf x
  have key : ∃ ad n' c, a.eval x = .slice ad n' c ∧ (ad.isNone = true → n = 0) := by
    split at hn
    · rename_i l sz o' n0 hx
      obtain rfl := Option.some.inj hn
      rw [hx] at hv
      generalize a.eval x = v at hv
      cases hv with
      | imm hi => cases hi
      | nil h => exact ⟨_, _, _, rfl, fun _ => rfl⟩
      | z h => exact ⟨_, _, _, rfl, fun _ => rfl⟩
      | s h hn hr => exact ⟨_, _, _, rfl, fun h => by cases h⟩
    · rename_i sz n0 get hx
      obtain rfl := Option.some.inj hn
      rw [hx] at hv
      generalize a.eval x = v at hv
      cases hv with
      | imm hi =>
        cases hi with
        | nil => exact ⟨_, _, _, rfl, fun _ => rfl⟩
        | i => exact ⟨_, _, _, rfl, fun h => by cases h⟩
    · cases hn
  obtain ⟨ad, n', c, hval, hz⟩ := key
  refine ⟨ad.isNone, ?_, hz⟩
  obtain ⟨dst, op, type, pos, after, guard⟩ := o
  simp only at hop
  subst hop
  have e2 : a.eval (.const (.slice none 0 0)) = .slice none 0 0 := rfl
  have e3 : (binOp .eql t (.slice ad n' c) (.slice none 0 0)).run P w = .ok (.bool ad.isNone) w := Lib.run_eql_slice_nil w t el ad n' c 0 0 hlk
  simp only [execOp, hval, e2]
  have e4 : (eqGuard .eql t x (.const (.slice none 0 0)) (.slice ad n' c) (.slice none 0 0)) = pure () := rfl
  simp [e4, Sem.run_bind, e3]

theorem doK_ok {E : Ent} {Y : YE} (hY : YOk P E.R E.φ E.σ E.W Y) {r : Option Nat} {o : Oper} {f : List AV} {σ : St} {a : Act} {w : World} (h : Holds E f σ a w) {K : List AV → St → Option Prop} (hr : tr (doK tt cs ks Y o f σ K)) {next : Act → World → Prop} {Q : Exit → Act → World → Prop}
    (hn : ∀ a' w' f' σ', Holds E f' σ' a' w' → tr (K f' σ') → next a' w') : o.wpIn (fen r) 0 P a w next Q := by
  have byV : ∀ {u : AV} {σ' : St}, doV tt cs o f σ = some (u, σ') → tr (K (put1 f o.dst u) σ') → o.wpIn (fen r) 0 P a w next Q := fun hv hk => doV_ok ht hcs h hv fun a' w' h' => hn a' w' _ _ h' hk
  obtain ⟨R, φ, hT, hl, hf, hm⟩ := h
  have hs := hT.sim
  unfold doK at hr
  split at hr
  · rename_i c x y hop
    split at hr
    · rename_i b hb
      cases b
      · simp only [cond, putK_eq] at hr
        exact byV (by unfold doV; simp only [hop, hb, cond]) hr
      · simp only [cond, putK_eq] at hr
        exact byV (by unfold doV; simp only [hop, hb, cond]) hr
    · exact hr.elim
  · rename_i g args ats hop
    split at hr
    · rename_i g' us ls hg
      split at hr
      · rename_i G hG
        split at hr
        case h_2 => exact hr.elim
        rename_i c0 u0 σ0 hr0
        cases c0 with
        | false => exact hr.elim
        | true =>
          simp only [cond, putK_eq] at hr
          exact byV (by unfold doV; simp only [hop, hg, hG, hr0, cond]) hr
      · split at hr
        case h_2 => exact hr.elim
        rename_i T hT'
        rw [normL_eq] at hr
        obtain ⟨hcal, hok⟩ := run_ok hks hT'
        obtain ⟨vals, e, hv⟩ := call_run hs hl hf hop hg hcal
        refine owp_enter (fun c h => by rw [hop] at h; cases h) e ((hok hr hs (hY.later hT) hv).mono ?_)
        rintro e' w' ⟨u, σ', v, R1, φ', rfl, ht', hv', hk⟩
        rw [putK_eq] at hk
        exact ⟨v, rfl, hn _ _ _ _ (Holds.step hT hl hf hm ht' hv' _) hk⟩
    · rename_i l hg
      split at hr
      case h_2 => exact hr.elim
      rename_i T hT'
      rw [normL_eq] at hr
      obtain ⟨b, hb, hy⟩ := hY l T hT'
      have hv := ev_frame hs hl hf g
      rw [hg] at hv
      have hval : a.eval g = .func (.yield b) #[] #[] := by
        generalize a.eval g = v at hv
        cases hv with
        | imm hi => cases hi
        | y h1 =>
          rw [hT.ext _ _ hb] at h1
          obtain ⟨rfl, _⟩ := Prod.mk.inj (Option.some.inj (Option.some.inj h1))
          rfl
      have h3 := evs_frame hs hl hf args.toList
      have e : (execOp a.eval o).run P w = (Instr.yield b (args.toList.map a.eval).toArray).run P w := by
        obtain ⟨dst, op, type, pos, after, guard⟩ := o
        simp only at hop
        subst hop
        simp only [execOp, resolve, hval, Deferred.ofValue]
        simp only [Sem.run_bind, Sem.run_pure, Result.andThen_ok, invoke]
        have hargs : args.map a.eval = (args.toList.map a.eval).toArray := by rw [← Array.toList_map]
        rw [hargs]
        simp
      have hyy := hy hT h3 hr
      refine owp_round (fun c h => by rw [hop] at h; cases h) e ?_
      obtain ⟨fn, tm, as, bd, y1, y2⟩ := hyy
      refine ⟨fn, tm, as, bd, y1, y2.mono ?_⟩
      rintro e' w' ⟨u, σ', v, R1, φ', rfl, ht', hv', hk⟩
      rw [putK_eq] at hk
      exact ⟨v, rfl, hn _ _ _ _ (Holds.step hT hl hf hm ht' hv' _) hk⟩
    · exact hr.elim
  · rename_i op hnp hnc
    split at hr
    case h_2 =>
      split at hr
      case h_2 =>
        split at hr
        case h_2 =>
          split at hr
          case h_2 => exact hr.elim
          rename_i n hq
          obtain ⟨e, hnd⟩ := lenQ_ok (P := P) ht hs hl hf hq
          refine owp_value hnd e (.inl rfl) ?_
          rw [putK_eq] at hr
          exact hn _ _ _ _ (Holds.step hT hl hf hm (Turn.refl hs) (.imm (.v _)) _) hr
        rename_i m l since seen es c ok hq
        obtain ⟨h0, h1, h2⟩ := hr
        have hnd : ∀ c, o.op ≠ .defer c := fun c h => by rw [h] at hq; simp [nextQ] at hq
        obtain ⟨nx, v, W', u, σ', e1, e2, e3, e4⟩ := nextQ_ok (P := P) hs hl hf hq h0
        refine owp_value hnd e1 e2 ?_
        rcases e3 with ⟨rfl, rfl, hle⟩ | ⟨e, he, rfl, rfl⟩
        · have h1 := h1 hle
          rw [putK_eq] at h1
          exact hn _ _ _ _ (Holds.step hT hl hf hm e4.1 e4.2 _) h1
        · have h2 := h2 e he
          rw [putK_eq] at h2
          exact hn _ _ _ _ (Holds.step hT hl hf hm e4.1 e4.2 _) h2
      rename_i n hq
      obtain ⟨b, e, hz⟩ := nilQ_ok (P := P) ht hs hl hf hq
      obtain ⟨h1, h2⟩ := hr
      refine owp_value (fun c h => by rw [h] at hq; simp [nilQ] at hq) e (.inl rfl) ?_
      cases b with
      | false =>
        rw [putK_eq] at h1
        exact hn _ _ _ _ (Holds.step hT hl hf hm (Turn.refl hs) (.imm (.v _)) _) h1
      | true =>
        have h2 := h2 (hz rfl)
        rw [putK_eq] at h2
        exact hn _ _ _ _ (Holds.step hT hl hf hm (Turn.refl hs) (.imm (.v _)) _) h2
    rename_i c u1 σ1 ha
    cases c with
    | false => exact hr.elim
    | true =>
      simp only [cond, putK_eq] at hr
      refine byV ?_ hr
      unfold doV
      split
      · rename_i h; exact absurd h (hnp _ _ _)
      · rename_i h; exact absurd h (hnc _ _ _)
      · simp only [ha, cond]

theorem stepK_ok {E : Ent} {Y : YE} (hY : YOk P E.R E.φ E.σ E.W Y) {r : Option Nat} {ops : Array Oper} {o : Oper} {f : List AV} {σ : St} {a : Act} {w : World} (h : Holds E f σ a w) {K : List AV → St → Option Prop} (hr : tr (stepK tt cs ks Y ops.toList o f σ K)) {next : Act → World → Prop} {Q : Exit → Act → World → Prop}
    (hn : ∀ a' w' f' σ', Holds E f' σ' a' w' → tr (K f' σ') → next a' w') : if Region.wanted o (yielded ops a.tmps) then o.wpIn (fen r) 0 P a w next Q else (∀ f, o.about P w a.eval = some f → (fen r).fn f) ∧ next (a.put o.dst undef) w := by
  have h0 := h
  obtain ⟨R, φ, hT, hl, hf, hm⟩ := h
  have skip : tr (putK f o.dst (.v undef) σ K) → (∀ f, o.about P w a.eval = some f → (fen r).fn f) ∧ next (a.put o.dst undef) w := fun hk => by
    rw [putK_eq] at hk
    exact ⟨fun f _ => fen_fn r f, hn _ _ _ _ (Holds.step hT hl hf hm (Turn.refl hT.sim) (.imm (.v _)) _) hk⟩
  unfold stepK at hr
  cases hgd : o.guard with
  | none =>
    simp only [hgd] at hr
    rw [if_pos (by simp [Region.wanted, hgd])]
    exact doK_ok ht hcs hks hY h0 hr hn
  | some jw =>
    obtain ⟨j, want⟩ := jw
    simp only [hgd] at hr
    cases hgv : gval ops.toList f j with
    | none => simp only [hgv] at hr; exact hr.elim
    | some b =>
      have hy := gval_ok hl hf hgv
      cases b with
      | none =>
        simp only [hgv] at hr
        rw [if_neg (by simp [Region.wanted, hgd, hy])]
        exact skip hr
      | some b =>
      simp only [hgv, cnd_eq] at hr
      cases hbw : (b == want) with
      | true =>
        simp only [hbw, cond] at hr
        rw [if_pos (by simp only [Region.wanted, hgd, hy]; simpa using hbw)]
        exact doK_ok ht hcs hks hY h0 hr hn
      | false =>
        simp only [hbw, cond] at hr
        rw [if_neg (by simp only [Region.wanted, hgd, hy]; simpa using hbw)]
        exact skip hr

theorem opsK_ok {E : Ent} {Y : YE} (hY : YOk P E.R E.φ E.σ E.W Y) {r : Option Nat} {ops : Array Oper} {Q : Exit → Act → World → Prop} {K : List AV → St → Option Prop} (hq : ∀ a' w' f' σ', Holds E f' σ' a' w' → tr (K f' σ') → Q .normal a' w') : ∀ (l : List Oper) {f : List AV} {σ : St} {a : Act} {w : World}, Holds E f σ a w → tr (opsK tt cs ks Y ops.toList l f σ K) →
    wpListIn (fen r) 0 P ops Q l a w := by
  intro l
  induction l with
  | nil => intro f σ a w h hr; exact hq a w f σ h hr
  | cons o l ih =>
    intro f σ a w h hr
    simp only [opsK] at hr
    exact stepK_ok ht hcs hks hY h hr fun a' w' f' σ' h' hk => ih h' hk
end
end
end Go.Proofs.Ythdeehkmlaejfaa.E
/- The engine, part 18: regions that draw their order: whatever the order is, the same comes of it. -/
namespace Go.Proofs.Ythdeehkmlaejfaa.E
open Go
set_option linter.unusedSimpArgs false
set_option linter.unusedVariables false
noncomputable section

theorem map_ev {f g : List AV} : ∀ (l : List Operand), (∀ x ∈ l, ev f x = ev g x) → l.map (ev f) = l.map (ev g) := fun l h => List.map_congr_left h

theorem evP_congr {f g : List AV} {ps : Array (Nat × Operand)} (h : ∀ x ∈ (ps.toList.map (·.2)).toArray, ev f x = ev g x) : evP f ps = evP g ps := by
  unfold evP
  refine List.map_congr_left fun p hp => ?_
  rw [h p.2 (by simp only [List.mem_toArray, List.mem_map]; exact ⟨p, hp, rfl⟩)]

theorem aOp_congr {tt : List TE} {op : Op} {f g : List AV} {σ : St} (h : ∀ x ∈ op.operands, ev f x = ev g x) : aOp tt op f σ = aOp tt op g σ := by
  cases op <;> simp only [Op.operands] at h <;> simp only [aOp]
  case build t ps => rw [evP_congr h]
  case buildSlice t n ps => rw [evP_congr h]
  case makeFunc fn us cs =>
    rw [map_ev us.toList fun x hx => h x (by simp only [Array.mem_append]; exact .inl (by simpa using hx)), map_ev cs.toList fun x hx => h x (by simp only [Array.mem_append]; exact .inr (by simpa using hx))]
  case slice t x lo hi mx =>
    have e1 : ∀ y, lo = some y → ev f y = ev g y := fun y hy => h y (by subst hy; simp)
    have e2 : ∀ y, hi = some y → ev f y = ev g y := fun y hy => h y (by subst hy; simp)
    have e3 : ∀ y, mx = some y → ev f y = ev g y := fun y hy => h y (by subst hy; simp)
    have e0 : ev f x = ev g x := h x (by simp)
    have o : ∀ z : Option Operand, (∀ y, z = some y → ev f y = ev g y) → evO f z = evO g z := fun z hz => by
      cases z with
      | none => rfl
      | some y => simp only [evO, Option.map_some, hz y rfl]
    rw [e0, o lo e1, o hi e2, o mx e3]
  case call c =>
    have hargs : ∀ x ∈ c.args.toList, ev f x = ev g x := fun x hx => h x (by simp only [Call.operands, Array.mem_append]; exact .inr (by simpa using hx))
    split
    · split
      · rename_i t x _ hx; rw [hargs x (by rw [hx]; simp)]
      · rfl
    · split
      · rename_i t x _ hx; rw [hargs x (by rw [hx]; simp)]
      · rfl
    · split
      · rename_i t t' x y _ hx; rw [hargs x (by rw [hx]; simp), hargs y (by rw [hx]; simp)]
      · rfl
    · split
      · rename_i t t' x y _ hx; rw [hargs x (by rw [hx]; simp), hargs y (by rw [hx]; simp)]
      · rfl
    · rw [map_ev _ hargs]
    · rw [map_ev _ hargs]
    · rfl
  case makeSlice t l c => rw [h l (by simp)]
  case store t x y => rw [h x (by simp), h y (by simp)]
  case binOp op t x y t' => rw [h x (by simp), h y (by simp)]
  case indexAddr t x y => rw [h x (by simp), h y (by simp)]
  case index t x y => rw [h x (by simp), h y (by simp)]
  case lookup t x y co => rw [h x (by simp), h y (by simp)]
  case makeMap t r => cases r <;> rfl
  case mapUpdate t x k v => rw [h x (by simp), h k (by simp), h v (by simp)]
  all_goals (first | rfl | (rename_i x; rw [h x (by simp)]) | (rename_i x y; rw [h x (by simp)]) | (rename_i t x y; rw [h x (by simp)]))

theorem ev_set {f : List AV} {d : Nat} {u : AV} {x : Operand} (h : x ≠ .tmp d) : ev (f.set d u) x = ev f x := by
  cases x with
  | tmp t =>
    have : d ≠ t := fun e => h (by rw [e])
    simp only [ev, List.getD_eq_getElem?_getD]
    rw [List.getElem?_set_ne this]
  | _ => rfl

theorem doV_congr {tt : List TE} {cs : Ctrs} {o : Oper} {f g : List AV} {σ : St} (h : ∀ x ∈ o.op.operands, ev f x = ev g x) : doV tt cs o f σ = doV tt cs o g σ := by
  unfold doV
  split
  · rename_i c a b hop
    rw [hop] at h
    simp only [Op.operands] at h
    rw [h c (by simp), h a (by simp), h b (by simp)]
  · rename_i k args ats hop
    rw [hop] at h
    simp only [Op.operands, Call.operands] at h
    rw [h k (by simp), map_ev args.toList fun x hx => h x (by simp only [Array.mem_append]; exact .inr (by simpa using hx))]
  · rw [aOp_congr h]

/-- Whether an operation makes a root of its own. -/
def isNew : Op → Bool
  | .alloc _ => true
  | .box .. => true
  | .buildSlice .. => true
  | .makeSlice .. => true
  | _ => false
def newD : List Oper → List (Option Nat)
  | [] => []
  | o :: l => match isNew o.op with
    | true => o.dst :: newD l
    | false => newD l
def eqO : Option Nat → Option Nat → Bool
  | some a, some b => Nat.beq a b
  | _, _ => false
def idxD (d : Option Nat) : List (Option Nat) → Nat → Nat
  | [], n => n
  | e :: l, n => match eqO d e with
    | true => n
    | false => idxD d l (n + 1)
/-- The place that is kept for the root that an operation makes. -/
def slotOf (N : Nat) (ops : List Oper) (o : Oper) : Nat := idxD o.dst (newD ops) N
/-- The value of an operation; a root that it makes stands in the place that is kept for it. -/
def doS (tt : List TE) (cs : Ctrs) (N : Nat) (ops : List Oper) (o : Oper) (f : List AV) (σ : St) : Option (AV × St) :=
  match isNew o.op with
  | true => match aOp tt o.op f [] with
    | some (c, u, [B]) => match σ[slotOf N ops o]? with
      | some .free => cond c (some (atR (slotOf N ops o) u, σ.set (slotOf N ops o) B)) none
      | _ => none
    | _ => none
  | false => doV tt cs o f σ
theorem doS_congr {tt : List TE} {cs : Ctrs} {N : Nat} {ops : List Oper} {o : Oper} {f g : List AV} {σ : St} (h : ∀ x ∈ o.op.operands, ev f x = ev g x) : doS tt cs N ops o f σ = doS tt cs N ops o g σ := by
  unfold doS
  rw [aOp_congr h, doV_congr h]
def valS (tt : List TE) (cs : Ctrs) (N : Nat) (ops : List Oper) (o : Oper) (f : List AV) (σ : St) : Option (AV × St) :=
  match o.guard with
  | none => doS tt cs N ops o f σ
  | some (j, want) => match gval ops f j with
    | some (some b) => cnd want b (doS tt cs N ops o f σ) (some (.v undef, σ))
    | some none => some (.v undef, σ)
    | none => none
def stepS (tt : List TE) (cs : Ctrs) (N : Nat) (ops : List Oper) (o : Oper) (f : List AV) (σ : St) : Option (List AV × St) :=
  match valS tt cs N ops o f σ with
  | some (u, σ') => some (put1 f o.dst u, σ')
  | none => none
def opsS (tt : List TE) (cs : Ctrs) (N : Nat) (ops : List Oper) : List Oper → List AV → St → Option (List AV × St)
  | [], f, σ => some (f, σ)
  | o :: l, f, σ => match stepS tt cs N ops o f σ with
    | some (f', σ') => opsS tt cs N ops l f' σ'
    | none => none

theorem valS_put {tt : List TE} {cs : Ctrs} {N : Nat} {ops : Array Oper} {o : Oper} {f : List AV} {σ : St} {dst : Option Nat} {u : AV} (h : ∀ d, dst = some d → d ∉ o.looksAt ops) : valS tt cs N ops.toList o (put1 f dst u) σ = valS tt cs N ops.toList o f σ := by
  cases dst with
  | none => rfl
  | some d =>
    have hd := h d rfl
    have h1 : ∀ x ∈ o.op.operands, ev (f.set d u) x = ev f x := fun x hx => ev_set fun e => hd (by
      subst e
      exact List.mem_append_left _ (List.mem_filterMap.2 ⟨.tmp d, by simpa using hx, rfl⟩))
    have h2 : ∀ j want, o.guard = some (j, want) → gval ops.toList (f.set d u) j = gval ops.toList f j := fun j want hg => by
      unfold gval
      split
      · rename_i q hq
        split
        · rename_i e he
          have : d ≠ e := by
            intro e'
            subst e'
            refine hd (List.mem_append_right _ ?_)
            rw [hg]
            simp only [Array.getElem?_toList] at hq
            simp [hq, he]
          simp only [List.getD_eq_getElem?_getD, List.getElem?_set_ne this]
        · rfl
      · rfl
    show valS tt cs N ops.toList o (f.set d u) σ = _
    unfold valS
    split
    · exact doS_congr h1
    · rename_i j want hg
      rw [h2 j want hg, doS_congr h1]

/-- What kind of contract a function has: it hangs on its arguments alone; on roots among its arguments too, which it reads; it reads and changes these roots at most, and makes new ones. -/
inductive Kind where
  | pure
  | reads (S : List AV → List Nat)
  | foot (S : List AV → St → List Nat)
abbrev Kinds := List (Nat × Kind)
def kindOf (kd : Kinds) (g : Nat) : Option Kind := match kd.find? fun p => Nat.beq p.1 g with | some p => some p.2 | none => none

/-- What kind of operation it is: 0 hangs on its operands alone; 1 reads, changes, makes roots that are told; 3 anything. -/
def cls (kd : Kinds) (op : Op) : Nat :=
  match op with
  | .move _ | .assign _ | .pick .. | .build .. | .nilCheck _ | .binOp .. | .unOp .. | .makeFunc .. | .slice .. | .fieldAddr .. | .field .. | .indexAddr .. | .index .. | .extract .. => 0
  | .load .. | .store .. | .convert .. => 1
  | .mapUpdate .. => 1
  | .alloc _ | .box .. | .buildSlice .. | .makeSlice .. => 1
  | .call c => match c.callee with
    | .builtin .len | .builtin .cap | .builtin .max | .builtin .min => 0
    | .builtin .append => 1
    | .value (.func g) => match kindOf kd g with | some .pure => 0 | some (.reads _) => 1 | some (.foot _) => 1 | none => 3
    | _ => 3
  | _ => 3

/-- A contract hangs on its arguments alone, and leaves the roots alone. -/
def CtrPure (G : Ctr) : Prop := ∀ args σ c u σ', G args σ = some (c, u, σ') → σ' = σ ∧ ∀ σ₂, G args σ₂ = some (c, u, σ₂)
/-- It reads these roots, and leaves all alone. -/
def CtrReads (S : List AV → List Nat) (G : Ctr) : Prop := ∀ args σ c u σ', G args σ = some (c, u, σ') → σ' = σ ∧ (∀ l ∈ S args, l < σ.length) ∧ ∀ σ₂, (∀ l ∈ S args, σ₂[l]? = σ[l]?) → G args σ₂ = some (c, u, σ₂)
/-- It hangs on these roots, leaves all others alone, and puts new ones behind. -/
def CtrFoot (S : List AV → St → List Nat) (G : Ctr) : Prop := ∀ args σ c u σ', G args σ = some (c, u, σ') → (∀ m ∈ S args σ, m < σ.length) ∧ σ.length ≤ σ'.length ∧ (∀ m, m < σ.length → m ∉ S args σ → σ'[m]? = σ[m]?) ∧
  ∀ σ₂, σ₂.length = σ.length → (∀ m ∈ S args σ, σ₂[m]? = σ[m]?) → S args σ₂ = S args σ ∧ ∃ σ₂', G args σ₂ = some (c, u, σ₂') ∧ σ₂'.length = σ'.length ∧ (∀ m, m < σ.length → m ∉ S args σ → σ₂'[m]? = σ₂[m]?) ∧ ∀ m, (m ∈ S args σ ∨ σ.length ≤ m) → σ₂'[m]? = σ'[m]?
def KindOk (G : Ctr) : Kind → Prop
  | .pure => CtrPure G
  | .reads S => CtrReads S G
  | .foot S => CtrFoot S G
def KindsOk (cs : Ctrs) (kd : Kinds) : Prop := ∀ g k G, kindOf kd g = some k → ctr cs g = some G → KindOk G k

theorem keep2_some {σ σ' : St} {r : Option (Bool × AV)} {c : Bool} {u : AV} (h : keep2 σ r = some (c, u, σ')) : σ' = σ ∧ ∀ σ₂, keep2 σ₂ r = some (c, u, σ₂) := by
  cases r with
  | none => cases h
  | some p =>
    simp only [keep2, Option.some.injEq, Prod.mk.injEq] at h
    obtain ⟨rfl, rfl, rfl⟩ := h
    exact ⟨rfl, fun _ => rfl⟩

theorem aOp_pure {tt : List TE} {kd : Kinds} {op : Op} {f : List AV} {σ σ' : St} {c : Bool} {u : AV} (hc : cls kd op = 0) (h : aOp tt op f σ = some (c, u, σ')) : σ' = σ ∧ ∀ σ₂, aOp tt op f σ₂ = some (c, u, σ₂) := by
  cases op <;> simp only [cls] at hc <;> simp only [aOp] at h ⊢ <;> try (cases hc; done)
  case move x => simp only [Option.some.injEq, Prod.mk.injEq] at h; obtain ⟨rfl, rfl, rfl⟩ := h; exact ⟨rfl, fun _ => rfl⟩
  case assign x => simp only [Option.some.injEq, Prod.mk.injEq] at h; obtain ⟨rfl, rfl, rfl⟩ := h; exact ⟨rfl, fun _ => rfl⟩
  case makeFunc fn us cs => simp only [Option.some.injEq, Prod.mk.injEq] at h; obtain ⟨rfl, rfl, rfl⟩ := h; exact ⟨rfl, fun _ => rfl⟩
  case slice t x lo hi mx =>
    split at h
    · cases h
    · split at h <;> exact keep2_some h
    · exact keep2_some h
  case call cl =>
    split at h
    · split at h
      · exact keep2_some h
      · cases h
    · split at h
      · exact keep2_some h
      · cases h
    · rename_i hb; rw [hb] at hc; cases hc
    · rename_i hb; rw [hb] at hc; cases hc
    · exact keep2_some h
    · exact keep2_some h
    · cases h
  case pick => cases h
  all_goals exact keep2_some h

theorem doV_pure {tt : List TE} {cs : Ctrs} {kd : Kinds} (hp : KindsOk cs kd) {o : Oper} {f : List AV} {σ σ' : St} {u : AV} (hc : cls kd o.op = 0) (h : doV tt cs o f σ = some (u, σ')) : σ' = σ ∧ ∀ σ₂, doV tt cs o f σ₂ = some (u, σ₂) := by
  unfold doV at h ⊢
  split at h
  · rename_i c a b hop
    split at h
    · rename_i x hx
      cases x
      · simp only [cond, Option.some.injEq, Prod.mk.injEq] at h; obtain ⟨rfl, rfl⟩ := h; exact ⟨rfl, fun _ => rfl⟩
      · simp only [cond, Option.some.injEq, Prod.mk.injEq] at h; obtain ⟨rfl, rfl⟩ := h; exact ⟨rfl, fun _ => rfl⟩
    · cases h
  · rename_i k args ats hop
    rw [hop] at hc
    split at h
    case h_2 => cases h
    rename_i g us ks hg
    cases k with
    | func g' =>
      simp only [ev, AV.f.injEq, Fn.func.injEq] at hg
      obtain ⟨rfl, rfl, rfl⟩ := hg
      simp only [cls] at hc
      have hk : kindOf kd g' = some .pure := by
        cases hk : kindOf kd g' with
        | none => simp [hk] at hc
        | some k => cases k <;> simp [hk] at hc ⊢
      cases hG : ctr cs g' with
      | none => rw [hG] at h; cases h
      | some G =>
        simp only [hG] at h ⊢
        split at h
        case h_2 => cases h
        rename_i c0 u0 σ0 h0
        obtain ⟨e1, h1⟩ := hp g' .pure G hk hG _ _ _ _ _ h0
        subst e1
        cases c0 with
        | false => cases h
        | true =>
          simp only [cond, Option.some.injEq, Prod.mk.injEq] at h
          obtain ⟨rfl, rfl⟩ := h
          exact ⟨rfl, fun σ₂ => (by simp only [h1 σ₂, cond])⟩
    | _ => simp [cls] at hc
  · rename_i op hnp hnc
    split at h
    case h_2 => cases h
    rename_i c u1 σ1 ha
    obtain ⟨rfl, h2⟩ := aOp_pure hc ha
    cases c with
    | false => cases h
    | true =>
      simp only [cond, Option.some.injEq, Prod.mk.injEq] at h
      obtain ⟨rfl, rfl⟩ := h
      refine ⟨rfl, fun σ₂ => ?_⟩
      simp only [h2 σ₂, cond]

/-- The roots that an address names. -/
def rootOf : AV → List Nat
  | .p l _ => [l]
  | .q l _ _ _ => [l]
  | _ => []
theorem aLoad_reads {tt : List TE} {t : Nat} {x : AV} {σ : St} {r : Bool × AV} (h : aLoad tt t x σ = some r) : (∀ l ∈ rootOf x, l < σ.length) ∧ ∀ σ₂, (∀ l ∈ rootOf x, σ₂[l]? = σ[l]?) → aLoad tt t x σ₂ = some r := by
  have key : ∀ l, σ[l]? ≠ none → l < σ.length := fun l hl => by
    rcases Nat.lt_or_ge l σ.length with g | g
    · exact g
    · exact absurd (List.getElem?_eq_none g) hl
  unfold aLoad at h ⊢
  cases he : look tt t with
  | none => simp [he] at h
  | some e =>
    simp only [he] at h ⊢
    cases x <;> simp only at h ⊢ <;> try (cases h; done)
    case p l off =>
      have hn : σ[l]? ≠ none := fun e => by rw [e] at h; cases h
      simp only [rootOf, List.mem_singleton]
      refine ⟨fun k hk => by subst hk; exact key _ hn, fun σ₂ h2 => ?_⟩
      rw [h2 l rfl]; exact h
    case q l sz i j =>
      have hn : σ[l]? ≠ none := fun e => by rw [e] at h; cases h
      simp only [rootOf, List.mem_singleton]
      refine ⟨fun k hk => by subst hk; exact key _ hn, fun σ₂ h2 => ?_⟩
      rw [h2 l rfl]; exact h
    case ip cs j => exact ⟨fun k hk => by simp [rootOf] at hk, fun σ₂ _ => h⟩

/-- The root that a slice names. -/
def rootMp : AV → List Nat
  | .mp l => [l]
  | _ => []
def rootSl : AV → List Nat
  | .s l _ _ _ => [l]
  | _ => []
theorem rowOf_reads {sz : Nat} {x : AV} {σ : St} {r : Bool × Nat × (Nat → List AV)} (h : rowOf sz x σ = some r) : (∀ l ∈ rootSl x, l < σ.length) ∧ ∀ σ₂ : St, (∀ l ∈ rootSl x, σ₂[l]? = σ[l]?) → rowOf sz x σ₂ = some r := by
  cases x with
  | s l sz' o n =>
    have hn : σ[l]? ≠ none := fun e => by simp [rowOf, e] at h
    simp only [rootSl, List.mem_singleton]
    refine ⟨fun k hk => by subst hk; rcases Nat.lt_or_ge k σ.length with g | g; exact g; exact absurd (List.getElem?_eq_none g) hn, fun σ₂ h2 => ?_⟩
    simp only [rowOf, h2 l rfl] at h ⊢
    exact h
  | v z =>
    refine ⟨fun l hl => by simp [rootSl] at hl, fun σ₂ _ => ?_⟩
    have e : rowOf sz (.v z) σ₂ = rowOf sz (.v z) σ := by
      cases z with
      | slice A len cap => cases A <;> cases len <;> cases cap <;> rfl
      | _ => rfl
    rw [e]; exact h
  | i sz' n g => exact ⟨fun l hl => by simp [rootSl] at hl, fun σ₂ _ => h⟩
  | z => exact ⟨fun l hl => by simp [rootSl] at hl, fun σ₂ _ => h⟩
  | _ => simp [rowOf] at h
theorem aConvS_reads {tt : List TE} {s d : Nat} {x : AV} {σ : St} {r : Bool × AV} (h : aConvS tt s d x σ = some r) : (∀ l ∈ rootSl x, l < σ.length) ∧ ∀ σ₂ : St, (∀ l ∈ rootSl x, σ₂[l]? = σ[l]?) → aConvS tt s d x σ₂ = some r := by
  unfold aConvS at h ⊢
  split at h
  case h_2 => cases h
  split at h
  case h_2 => cases h
  split at h
  case h_2 => cases h
  split at h
  case h_2 => cases h
  split at h
  case h_2 => cases h
  rename_i c n g hr
  obtain ⟨h1, h2⟩ := rowOf_reads hr
  refine ⟨h1, fun σ₂ hσ => ?_⟩
  simp only [h2 σ₂ hσ]
  simp_all

/-- What an operation does to memory, where it is done: how many roots there are, where it puts new ones behind; the roots that it reads; those of them that it changes; whether it puts new ones behind. -/
structure Lab where
  n : Nat
  rd : List Nat
  wr : List Nat
  ap : Bool
def lab0 : Lab := ⟨0, [], [], false⟩
def labV (kd : Kinds) (N : Nat) (ops : List Oper) (o : Oper) (f : List AV) (σ : St) : Lab :=
  match o.op with
  | .load _ x => ⟨0, rootOf (ev f x), [], false⟩
  | .convert _ _ x => ⟨0, rootSl (ev f x), [], false⟩
  | .store _ x _ => ⟨0, rootOf (ev f x), rootOf (ev f x), false⟩
  | .mapUpdate _ x _ _ => ⟨0, rootMp (ev f x), rootMp (ev f x), false⟩
  | .alloc _ | .box .. | .buildSlice .. | .makeSlice .. => ⟨0, [slotOf N ops o], [slotOf N ops o], false⟩
  | .call { callee := .value (.func g), args := args, .. } => match kindOf kd g with
    | some (.reads S) => ⟨0, S (args.toList.map (ev f)), [], false⟩
    | some (.foot S) => ⟨σ.length, S (args.toList.map (ev f)) σ, S (args.toList.map (ev f)) σ, true⟩
    | _ => lab0
  | .call { callee := .builtin .append, args := args, .. } => match args.toList with
    | [x, y] => ⟨σ.length, rootSl (ev f x) ++ rootSl (ev f y), rootSl (ev f x), true⟩
    | _ => lab0
  | _ => lab0
def labF (kd : Kinds) (N : Nat) (ops : List Oper) (o : Oper) (f : List AV) (σ : St) : Lab :=
  match o.guard with
  | none => labV kd N ops o f σ
  | some (j, want) => match gval ops f j with
    | some (some b) => cnd want b (labV kd N ops o f σ) lab0
    | _ => lab0

theorem labV_congr {kd : Kinds} {N : Nat} {ops : List Oper} {o : Oper} {f g : List AV} {σ : St} (h : ∀ x ∈ o.op.operands, ev f x = ev g x) : labV kd N ops o f σ = labV kd N ops o g σ := by
  unfold labV
  split
  · rename_i t x hop
    rw [hop] at h
    rw [h x (by simp [Op.operands])]
  · rename_i s d x hop
    rw [hop] at h
    rw [h x (by simp [Op.operands])]
  · rename_i t x y hop
    rw [hop] at h
    rw [h x (by simp [Op.operands])]
  · rename_i t x y z hop
    rw [hop] at h
    rw [h x (by simp [Op.operands])]
  · rfl
  · rfl
  · rfl
  · rfl
  · rename_i k args ats hop
    rw [hop] at h
    simp only [Op.operands, Call.operands] at h
    rw [map_ev args.toList fun x hx => h x (by simp only [Array.mem_append]; exact .inr (by simpa using hx))]
  · rename_i args ats hop
    rw [hop] at h
    simp only [Op.operands, Call.operands] at h
    split
    · rename_i x y hxy
      rw [h x (by simp only [Array.mem_append]; refine .inr (Array.mem_def.2 ?_); rw [hxy]; simp), h y (by simp only [Array.mem_append]; refine .inr (Array.mem_def.2 ?_); rw [hxy]; simp)]
    · rfl
  · rfl

theorem labF_put {kd : Kinds} {N : Nat} {ops : Array Oper} {o : Oper} {f : List AV} {σ : St} {dst : Option Nat} {u : AV} (h : ∀ d, dst = some d → d ∉ o.looksAt ops) : labF kd N ops.toList o (put1 f dst u) σ = labF kd N ops.toList o f σ := by
  cases dst with
  | none => rfl
  | some d =>
    have hd := h d rfl
    have h1 : ∀ x ∈ o.op.operands, ev (f.set d u) x = ev f x := fun x hx => ev_set fun e => hd (by
      subst e
      exact List.mem_append_left _ (List.mem_filterMap.2 ⟨.tmp d, by simpa using hx, rfl⟩))
    have h2 : ∀ j want, o.guard = some (j, want) → gval ops.toList (f.set d u) j = gval ops.toList f j := fun j want hg => by
      unfold gval
      split
      · rename_i q hq
        split
        · rename_i e he
          have : d ≠ e := by
            intro e'
            subst e'
            refine hd (List.mem_append_right _ ?_)
            rw [hg]
            simp only [Array.getElem?_toList] at hq
            simp [hq, he]
          simp only [List.getD_eq_getElem?_getD, List.getElem?_set_ne this]
        · rfl
      · rfl
    show labF kd N ops.toList o (f.set d u) σ = _
    unfold labF
    split
    · exact labV_congr h1
    · rename_i j want hg
      rw [h2 j want hg, labV_congr h1]

/-- What an operation does hangs on the roots that its label tells, and on no other ones. -/
structure Loc (run : St → Option (AV × St)) (lab : St → Lab) (σ : St) (u : AV) (σ' : St) : Prop where
  lt : ∀ m ∈ (lab σ).rd, m < σ.length
  sub : ∀ m ∈ (lab σ).wr, m ∈ (lab σ).rd
  ln : (lab σ).ap = true → (lab σ).n = σ.length
  len : (lab σ).ap = false → σ'.length = σ.length
  le : σ.length ≤ σ'.length
  same : ∀ m, m < σ.length → m ∉ (lab σ).wr → σ'[m]? = σ[m]?
  loc : ∀ σ₂, ((lab σ).ap = true → σ₂.length = σ.length) → (∀ m ∈ (lab σ).rd, σ₂[m]? = σ[m]?) → lab σ₂ = lab σ ∧ ∃ σ₂', run σ₂ = some (u, σ₂') ∧ (∀ m, m < σ₂.length → m ∉ (lab σ).wr → σ₂'[m]? = σ₂[m]?) ∧ (∀ m ∈ (lab σ).wr, σ₂'[m]? = σ'[m]?) ∧
    ((lab σ).ap = true → σ₂'.length = σ'.length ∧ ∀ m, σ.length ≤ m → σ₂'[m]? = σ'[m]?) ∧ ((lab σ).ap = false → σ₂'.length = σ₂.length)

/-- It changes nothing. -/
theorem Loc.reads {run : St → Option (AV × St)} {S : List Nat} {σ : St} {u : AV} (h1 : ∀ m ∈ S, m < σ.length) (h2 : ∀ σ₂, (∀ m ∈ S, σ₂[m]? = σ[m]?) → run σ₂ = some (u, σ₂)) : Loc run (fun _ => ⟨0, S, [], false⟩) σ u σ where
  lt := h1
  sub m hm := by simp at hm
  ln h := by cases h
  len _ := rfl
  le := Nat.le_refl _
  same m _ _ := rfl
  loc σ₂ _ hg := ⟨rfl, σ₂, h2 σ₂ hg, fun _ _ _ => rfl, fun m hm => (by simp at hm), fun h => (by cases h), fun _ => rfl⟩
/-- It changes one root. -/
theorem Loc.one {run : St → Option (AV × St)} {l : Nat} {B : Blk} {σ : St} {u : AV} (h1 : l < σ.length) (h2 : ∀ σ₂ : St, σ₂[l]? = σ[l]? → run σ₂ = some (u, σ₂.set l B)) : Loc run (fun _ => ⟨0, [l], [l], false⟩) σ u (σ.set l B) where
  lt m hm := by obtain rfl := List.mem_singleton.1 hm; exact h1
  sub m hm := hm
  ln h := by cases h
  len _ := List.length_set
  le := Nat.le_of_eq List.length_set.symm
  same m _ hm := by rw [List.getElem?_set_ne (fun e => hm (by rw [e]; exact List.mem_singleton_self m))]
  loc σ₂ _ hg := by
    have hl := hg l (List.mem_singleton_self l)
    have hlt : l < σ₂.length := by rw [List.getElem?_eq_getElem h1] at hl; exact (List.getElem?_eq_some_iff.1 hl).1
    refine ⟨rfl, _, h2 σ₂ hl, fun m _ hm => ?_, fun m hm => ?_, fun h => (by cases h), fun _ => List.length_set⟩
    · rw [List.getElem?_set_ne (fun e => hm (by rw [e]; exact List.mem_singleton_self m))]
    · obtain rfl := List.mem_singleton.1 hm
      rw [List.getElem?_set_self hlt, List.getElem?_set_self h1]

theorem aStore0_one {tt : List TE} {t : Nat} {x y : AV} {σ σ' : St} {c : Bool} (h : aStore0 tt t x y σ = some (c, σ')) : ∃ l B, rootOf x = [l] ∧ l < σ.length ∧ σ' = σ.set l B ∧ ∀ σ₂ : St, σ₂[l]? = σ[l]? → aStore0 tt t x y σ₂ = some (c, σ₂.set l B) := by
  have key : ∀ l, σ[l]? ≠ none → l < σ.length := fun l hl => by
    rcases Nat.lt_or_ge l σ.length with g | g
    · exact g
    · exact absurd (List.getElem?_eq_none g) hl
  unfold aStore0 at h ⊢
  split at h
  case h_2 => cases h
  rename_i e cs he hcs
  split at h
  case h_1 => cases h
  rename_i hb
  cases x <;> simp only at h <;> try (cases h; done)
  case p l off =>
    have hn : σ[l]? ≠ none := fun e => by rw [e] at h; cases h
    split at h
    · rename_i cells hl
      split at h
      case h_2 => cases h
      rename_i q1 q2
      obtain ⟨rfl, rfl⟩ := Prod.mk.inj (Option.some.inj h)
      exact ⟨l, _, rfl, key l hn, rfl, fun σ₂ h2 => by simp only [h2, hl, q1, q2]⟩
    · rename_i sz n get hl
      split at h
      case h_2 => cases h
      rename_i q1 q2 q3
      obtain ⟨rfl, rfl⟩ := Prod.mk.inj (Option.some.inj h)
      exact ⟨l, _, rfl, key l hn, rfl, fun σ₂ h2 => by simp only [h2, hl, q1, q2, q3]⟩
    · cases h
  case q l sz i j =>
    have hn : σ[l]? ≠ none := fun e => by rw [e] at h; cases h
    split at h
    case h_2 => cases h
    rename_i sz' n get hl
    split at h
    case h_2 => cases h
    rename_i q1 q2 q3
    obtain ⟨rfl, rfl⟩ := Prod.mk.inj (Option.some.inj h)
    exact ⟨l, _, rfl, key l hn, rfl, fun σ₂ h2 => by simp only [h2, hl, q1, q2, q3]⟩

theorem aStore_one {tt : List TE} {t : Nat} {x y : AV} {σ σ' : St} {c : Bool} (h : aStore tt t x y σ = some (c, σ')) : ∃ l B, rootOf x = [l] ∧ l < σ.length ∧ σ' = σ.set l B ∧ ∀ σ₂ : St, σ₂[l]? = σ[l]? → aStore tt t x y σ₂ = some (c, σ₂.set l B) := by
  unfold aStore at h ⊢
  split at h
  · rename_i l sz i j
    split at h
    · rename_i cs hl
      obtain ⟨l', B, e1, e2, e3, e4⟩ := aStore0_one h
      obtain rfl : l = l' := (List.cons.inj e1).1
      exact ⟨l, B, rfl, e2, e3, fun σ₂ h2 => by simp only [h2, hl]; exact e4 σ₂ h2⟩
    · rename_i hl
      obtain ⟨l', B, e1, e2, e3, e4⟩ := aStore0_one h
      obtain rfl : l = l' := (List.cons.inj e1).1
      refine ⟨l, B, rfl, e2, e3, fun σ₂ h2 => ?_⟩
      split
      · rename_i cs h3
        exact absurd (h2.symm.trans h3) (hl cs)
      · exact e4 σ₂ h2
  · rename_i hx
    obtain ⟨l', B, e1, e2, e3, e4⟩ := aStore0_one h
    exact ⟨l', B, e1, e2, e3, fun σ₂ h2 => by first | exact e4 σ₂ h2 | (split <;> first | exact e4 σ₂ h2 | (rename_i l sz i j; exact absurd rfl (hx l sz i j)))⟩

/-- append hangs on the roots of its slices, and puts one behind. -/
theorem aAppend_loc {tt : List TE} {t : Nat} {x y : AV} {σ σ1 : St} {u : AV} (ha : aAppend tt t x y σ = some (true, u, σ1)) : (∀ m ∈ rootSl x ++ rootSl y, m < σ.length) ∧ σ1.length = σ.length + 1 ∧ (∀ m, m < σ.length → m ∉ rootSl x → σ1[m]? = σ[m]?) ∧
    ∀ σ₂ : St, σ₂.length = σ.length → (∀ m ∈ rootSl x ++ rootSl y, σ₂[m]? = σ[m]?) → ∃ σ₂' : St, aAppend tt t x y σ₂ = some (true, u, σ₂') ∧ σ₂'.length = σ.length + 1 ∧ (∀ m, m < σ.length → m ∉ rootSl x → σ₂'[m]? = σ₂[m]?) ∧ ∀ m, (m ∈ rootSl x ∨ σ.length ≤ m) → σ₂'[m]? = σ1[m]? := by
  have last : ∀ (τ : St) (B : Blk) (m : Nat), m < τ.length → (τ ++ [B])[m]? = τ[m]? := fun τ B m hm => List.getElem?_append_left hm
  unfold aAppend at ha ⊢
  split at ha
  case h_1 => cases ha
  rename_i e he
  split at ha
  case h_2 => cases ha
  rename_i el htd
  split at ha
  case h_1 => cases ha
  rename_i ee hee
  split at ha
  case h_2 => cases ha
  rename_i b1 b2 b3 b4
  split at ha
  case h_2 => cases ha
  rename_i c1 n g1 c2 m' g2 hr1 hr2
  obtain ⟨p1, p2⟩ := rowOf_reads hr1
  obtain ⟨q1, q2⟩ := rowOf_reads hr2
  have lt : ∀ m ∈ rootSl x ++ rootSl y, m < σ.length := fun m hm => (List.mem_append.1 hm).elim (p1 m) (q1 m)
  have rows : ∀ σ₂ : St, (∀ m ∈ rootSl x ++ rootSl y, σ₂[m]? = σ[m]?) → rowOf ee.size x σ₂ = some (c1, n, g1) ∧ rowOf ee.size y σ₂ = some (c2, m', g2) := fun σ₂ h => ⟨p2 σ₂ fun m hm => h m (List.mem_append_left _ hm), q2 σ₂ fun m hm => h m (List.mem_append_right _ hm)⟩
  try simp only [he, htd, hee, b1, b2, b3, b4]
  cases x with
  | s l sz' o n0 =>
    simp only [Option.some.injEq, Prod.mk.injEq] at ha
    obtain ⟨hc, rfl, rfl⟩ := ha
    have hl : l < σ.length := lt l (List.mem_append_left _ (List.mem_singleton_self l))
    refine ⟨lt, by simp, fun m hm hm' => ?_, fun σ₂ hn h2 => ?_⟩
    · rw [last _ _ m (by simpa using hm), List.getElem?_set_ne (fun e => hm' (by rw [e]; exact List.mem_singleton_self m))]
    · obtain ⟨r1, r2⟩ := rows σ₂ h2
      simp only [r1, r2, hc, hn]
      refine ⟨_, rfl, by simp [hn], fun m hm hm' => ?_, fun m hm => ?_⟩
      · rw [last _ _ m (by simpa [hn] using hm), List.getElem?_set_ne (fun e => hm' (by rw [e]; exact List.mem_singleton_self m))]
      · rcases hm with hm | hm
        · obtain rfl := List.mem_singleton.1 hm
          rw [last _ _ m (by simpa [hn] using hl), last _ _ m (by simpa using hl), List.getElem?_set_self (by omega), List.getElem?_set_self hl]
        · rw [List.getElem?_append_right (by simpa [hn] using hm), List.getElem?_append_right (by simpa using hm)]
          simp [hn]
  | v z =>
    simp only [Option.some.injEq, Prod.mk.injEq] at ha
    obtain ⟨hc, rfl, rfl⟩ := ha
    refine ⟨lt, by simp, fun m hm hm' => last _ _ m hm, fun σ₂ hn h2 => ?_⟩
    obtain ⟨r1, r2⟩ := rows σ₂ h2
    simp only [r1, r2, hc, hn]
    refine ⟨_, rfl, by simp [hn], fun m hm hm' => last _ _ m (by omega), fun m hm => ?_⟩
    rcases hm with hm | hm
    · simp [rootSl] at hm
    · rw [List.getElem?_append_right (by omega), List.getElem?_append_right hm, hn]
  | z =>
    simp only [Option.some.injEq, Prod.mk.injEq] at ha
    obtain ⟨hc, rfl, rfl⟩ := ha
    refine ⟨lt, by simp, fun m hm hm' => last _ _ m hm, fun σ₂ hn h2 => ?_⟩
    obtain ⟨r1, r2⟩ := rows σ₂ h2
    simp only [r1, r2, hc, hn]
    refine ⟨_, rfl, by simp [hn], fun m hm hm' => last _ _ m (by omega), fun m hm => ?_⟩
    rcases hm with hm | hm
    · simp [rootSl] at hm
    · rw [List.getElem?_append_right (by omega), List.getElem?_append_right hm, hn]
  | _ => simp at ha
theorem aApp_loc {tt : List TE} {t : Nat} {x y : AV} {σ σ1 : St} {u : AV} (ha : aApp tt t x y σ = some (true, u, σ1)) : (∀ m ∈ rootSl x ++ rootSl y, m < σ.length) ∧ σ1.length = σ.length + 1 ∧ (∀ m, m < σ.length → m ∉ rootSl x → σ1[m]? = σ[m]?) ∧
    ∀ σ₂ : St, σ₂.length = σ.length → (∀ m ∈ rootSl x ++ rootSl y, σ₂[m]? = σ[m]?) → ∃ σ₂' : St, aApp tt t x y σ₂ = some (true, u, σ₂') ∧ σ₂'.length = σ.length + 1 ∧ (∀ m, m < σ.length → m ∉ rootSl x → σ₂'[m]? = σ₂[m]?) ∧ ∀ m, (m ∈ rootSl x ∨ σ.length ≤ m) → σ₂'[m]? = σ1[m]? := by
  unfold aApp at ha
  split at ha
  · rename_i z l sz o n
    split at ha
    · rename_i cs hl
      have hlt : l < σ.length := (List.getElem?_eq_some_iff.1 hl).1
      split at ha
      case h_2 => cases ha
      rename_i cells hcells
      simp only [Option.some.injEq, Prod.mk.injEq] at ha
      obtain ⟨hc, rfl, rfl⟩ := ha
      refine ⟨fun m hm => ?_, by simp, fun m hm _ => List.getElem?_append_left hm, fun σ₂ hn h2 => ?_⟩
      · simp only [rootSl, List.nil_append, List.mem_singleton] at hm
        subst hm; exact hlt
      · have hg := h2 l (by simp [rootSl])
        unfold aApp
        simp only [hg, hl, hcells, hc, hn]
        refine ⟨_, rfl, by simp [hn], fun m hm _ => List.getElem?_append_left (by omega), fun m hm => ?_⟩
        rcases hm with hm | hm
        · simp [rootSl] at hm
        · rw [List.getElem?_append_right (by omega), List.getElem?_append_right hm, hn]
    · rename_i hl
      obtain ⟨k1, k2, k3, k4⟩ := aAppend_loc ha
      refine ⟨k1, k2, k3, fun σ₂ hn h2 => ?_⟩
      unfold aApp
      simp only
      have hg := h2 l (by simp [rootSl])
      split
      · rename_i cs h3
        exact absurd (hg.symm.trans h3) (hl cs)
      · exact k4 σ₂ hn h2
  · rename_i hx
    obtain ⟨k1, k2, k3, k4⟩ := aAppend_loc ha
    refine ⟨k1, k2, k3, fun σ₂ hn h2 => ?_⟩
    unfold aApp
    split
    · rename_i z l sz o n
      exact absurd rfl (hx z l sz o n rfl)
    · exact k4 σ₂ hn h2
theorem rowOfV_reads {sz : Nat} {x : AV} {σ : St} {r : Bool × Nat × (Nat → List AV) × List Nat} (h : rowOfV sz x σ = some r) : (∀ l ∈ rootSl x, l < σ.length) ∧ ∀ σ₂ : St, (∀ l ∈ rootSl x, σ₂[l]? = σ[l]?) → rowOfV sz x σ₂ = some r := by
  cases x with
  | s l sz' o n =>
    have hn : σ[l]? ≠ none := fun e => by simp [rowOfV, e] at h
    simp only [rootSl, List.mem_singleton]
    refine ⟨fun k hk => by subst hk; rcases Nat.lt_or_ge k σ.length with g | g; exact g; exact absurd (List.getElem?_eq_none g) hn, fun σ₂ h2 => ?_⟩
    simp only [rowOfV, h2 l rfl] at h ⊢
    exact h
  | _ => exact ⟨fun l hl => by simp [rootSl] at hl, fun σ₂ _ => h⟩
theorem aAppendV_loc {tt : List TE} {t : Nat} {x y : AV} {σ σ1 : St} {u : AV} (ha : aAppendV tt t x y σ = some (true, u, σ1)) : (∀ m ∈ rootSl x ++ rootSl y, m < σ.length) ∧ σ1.length = σ.length + 1 ∧ (∀ m, m < σ.length → m ∉ rootSl x → σ1[m]? = σ[m]?) ∧
    ∀ σ₂ : St, σ₂.length = σ.length → (∀ m ∈ rootSl x ++ rootSl y, σ₂[m]? = σ[m]?) → ∃ σ₂' : St, aAppendV tt t x y σ₂ = some (true, u, σ₂') ∧ σ₂'.length = σ.length + 1 ∧ (∀ m, m < σ.length → m ∉ rootSl x → σ₂'[m]? = σ₂[m]?) ∧ ∀ m, (m ∈ rootSl x ∨ σ.length ≤ m) → σ₂'[m]? = σ1[m]? := by
  have last : ∀ (τ : St) (B : Blk) (m : Nat), m < τ.length → (τ ++ [B])[m]? = τ[m]? := fun τ B m hm => List.getElem?_append_left hm
  unfold aAppendV at ha ⊢
  split at ha
  case h_1 => cases ha
  rename_i e he
  split at ha
  case h_2 => cases ha
  rename_i el htd
  split at ha
  case h_1 => cases ha
  rename_i ee hee
  split at ha
  case h_2 => cases ha
  rename_i b1 b2 b3 b4
  split at ha
  case h_2 => cases ha
  rename_i c1 n g1 rs1 c2 m' g2 rs2 hr1 hr2
  obtain ⟨p1, p2⟩ := rowOfV_reads hr1
  obtain ⟨q1, q2⟩ := rowOfV_reads hr2
  have lt : ∀ m ∈ rootSl x ++ rootSl y, m < σ.length := fun m hm => (List.mem_append.1 hm).elim (p1 m) (q1 m)
  have rows : ∀ σ₂ : St, (∀ m ∈ rootSl x ++ rootSl y, σ₂[m]? = σ[m]?) → rowOfV ee.size x σ₂ = some (c1, n, g1, rs1) ∧ rowOfV ee.size y σ₂ = some (c2, m', g2, rs2) := fun σ₂ h => ⟨p2 σ₂ fun m hm => h m (List.mem_append_left _ hm), q2 σ₂ fun m hm => h m (List.mem_append_right _ hm)⟩
  try simp only [he, htd, hee, b1, b2, b3, b4]
  cases x with
  | s l sz' o n0 =>
    simp only [Option.some.injEq, Prod.mk.injEq] at ha
    obtain ⟨hc, rfl, rfl⟩ := ha
    have hl : l < σ.length := lt l (List.mem_append_left _ (List.mem_singleton_self l))
    refine ⟨lt, by simp, fun m hm hm' => ?_, fun σ₂ hn h2 => ?_⟩
    · rw [last _ _ m (by simpa using hm), List.getElem?_set_ne (fun e => hm' (by rw [e]; exact List.mem_singleton_self m))]
    · obtain ⟨r1, r2⟩ := rows σ₂ h2
      simp only [r1, r2, hc, hn]
      refine ⟨_, rfl, by simp [hn], fun m hm hm' => ?_, fun m hm => ?_⟩
      · rw [last _ _ m (by simpa [hn] using hm), List.getElem?_set_ne (fun e => hm' (by rw [e]; exact List.mem_singleton_self m))]
      · rcases hm with hm | hm
        · obtain rfl := List.mem_singleton.1 hm
          rw [last _ _ m (by simpa [hn] using hl), last _ _ m (by simpa using hl), List.getElem?_set_self (by omega), List.getElem?_set_self hl]
        · rw [List.getElem?_append_right (by simpa [hn] using hm), List.getElem?_append_right (by simpa using hm)]
          simp [hn]
  | _ => simp at ha
theorem asV_reads {σ σ₂ : St} {y : AV} {l : Nat} (h : ∀ m ∈ [l] ++ rootSl y, σ₂[m]? = σ[m]?) : asV σ₂ y σ₂[l]? = asV σ y σ[l]? := by
  have h1 : σ₂[l]? = σ[l]? := h l (by simp)
  rw [h1]
  unfold asV
  split
  · rfl
  · cases y with
    | s m sz o n =>
      have h2 : σ₂[m]? = σ[m]? := h m (by simp [rootSl])
      simp only [h2]
    | _ => rfl
  · rfl
theorem asV_lt {σ : St} {y : AV} {l : Nat} {B : Blk} (h : asV σ y σ[l]? = some B) : l < σ.length ∧ ∀ m ∈ rootSl y, asV σ y σ[l]? = some B → True := by
  refine ⟨?_, fun _ _ _ => trivial⟩
  rcases Nat.lt_or_ge l σ.length with g | g
  · exact g
  · rw [List.getElem?_eq_none g] at h; simp [asV] at h
theorem aAppV_loc {tt : List TE} {t : Nat} {x y : AV} {σ σ1 : St} {u : AV} (ha : aAppV tt t x y σ = some (true, u, σ1)) : (∀ m ∈ rootSl x ++ rootSl y, m < σ.length) ∧ σ1.length = σ.length + 1 ∧ (∀ m, m < σ.length → m ∉ rootSl x → σ1[m]? = σ[m]?) ∧
    ∀ σ₂ : St, σ₂.length = σ.length → (∀ m ∈ rootSl x ++ rootSl y, σ₂[m]? = σ[m]?) → ∃ σ₂' : St, aAppV tt t x y σ₂ = some (true, u, σ₂') ∧ σ₂'.length = σ.length + 1 ∧ (∀ m, m < σ.length → m ∉ rootSl x → σ₂'[m]? = σ₂[m]?) ∧ ∀ m, (m ∈ rootSl x ∨ σ.length ≤ m) → σ₂'[m]? = σ1[m]? := by
  unfold aAppV at ha
  split at ha
  · rename_i l sz o n
    split at ha
    · rename_i B hB
      have hl := (asV_lt hB).1
      obtain ⟨k1, k2, k3, k4⟩ := aAppendV_loc ha
      simp only [List.length_set] at k1 k2 k3 k4
      refine ⟨k1, k2, fun m hm hm' => ?_, fun σ₂ hn h2 => ?_⟩
      · rw [k3 m hm hm', List.getElem?_set_ne (fun e => hm' (by rw [← e]; exact List.mem_singleton_self l))]
      · have hB2 : asV σ₂ y σ₂[l]? = some B := by rw [asV_reads (σ := σ) (σ₂ := σ₂) h2]; exact hB
        have hset : ∀ m, m < σ.length → (m = l ∨ σ₂[m]? = σ[m]?) → (σ₂.set l B)[m]? = (σ.set l B)[m]? := fun m hm e => by
          rw [List.getElem?_set, List.getElem?_set]
          split
          · rename_i e'; subst e'
            have h3 : l < σ₂.length := by omega
            simp [h3, hl]
          · rename_i e'; exact e.elim (fun h => absurd h.symm e') id
        obtain ⟨σ₂', r1, r2, r3, r4⟩ := k4 (σ₂.set l B) (by simpa using hn) fun m hm => hset m (k1 m hm) (.inr (h2 m hm))
        refine ⟨σ₂', ?_, r2, fun m hm hm' => ?_, r4⟩
        · unfold aAppV
          simp only [hB2]
          exact r1
        · rw [r3 m hm hm', List.getElem?_set_ne (fun e => hm' (by rw [← e]; exact List.mem_singleton_self l))]
    · rename_i hB
      obtain ⟨k1, k2, k3, k4⟩ := aApp_loc ha
      refine ⟨k1, k2, k3, fun σ₂ hn h2 => ?_⟩
      have hB2 : asV σ₂ y σ₂[l]? = none := by rw [asV_reads (σ := σ) (σ₂ := σ₂) h2]; exact hB
      unfold aAppV
      simp only [hB2]
      exact k4 σ₂ hn h2
  · rename_i hx
    obtain ⟨k1, k2, k3, k4⟩ := aApp_loc ha
    refine ⟨k1, k2, k3, fun σ₂ hn h2 => ?_⟩
    unfold aAppV
    split
    · rename_i l sz o n
      exact absurd rfl (hx l sz o n)
    · exact k4 σ₂ hn h2
theorem aStoreV_one {tt : List TE} {t l sz i j : Nat} {y : AV} {σ σ' : St} {c : Bool} {sz' n : Nat} {get : Nat → List AV} {rs : List Nat} (h : aStoreV tt t l sz i j y σ sz' n get rs = some (c, σ')) : ∃ B, σ' = σ.set l B ∧ ∀ σ₂ : St, aStoreV tt t l sz i j y σ₂ sz' n get rs = some (c, σ₂.set l B) := by
  unfold aStoreV at h ⊢
  split at h
  case h_2 => cases h
  rename_i e cs he hcs
  split at h
  case h_2 => cases h
  rename_i q1 q2 q3 q4
  obtain ⟨rfl, rfl⟩ := Prod.mk.inj (Option.some.inj h)
  exact ⟨_, rfl, fun σ₂ => by simp only [he, hcs, q1, q2, q3, q4]⟩
theorem aStoreW_one {tt : List TE} {t : Nat} {x y : AV} {σ σ' : St} {c : Bool} (h : aStoreW tt t x y σ = some (c, σ')) : ∃ l B, rootOf x = [l] ∧ l < σ.length ∧ σ' = σ.set l B ∧ ∀ σ₂ : St, σ₂[l]? = σ[l]? → aStoreW tt t x y σ₂ = some (c, σ₂.set l B) := by
  unfold aStoreW at h
  split at h
  · rename_i l sz i j
    split at h
    · rename_i sz' n get rs hl
      obtain ⟨B, rfl, h2⟩ := aStoreV_one h
      exact ⟨l, B, rfl, (List.getElem?_eq_some_iff.1 hl).1, rfl, fun σ₂ hσ => by simp only [aStoreW, hσ, hl]; exact h2 σ₂⟩
    · rename_i sz' n get hl
      split at h
      · rw [Option.map_eq_some_iff] at h
        obtain ⟨r, hr, e⟩ := h
        have e' : r = (c, σ') := e
        subst e'
        obtain ⟨B, e2, h2⟩ := aStoreV_one hr
        rw [List.set_set] at e2
        refine ⟨l, B, rfl, (List.getElem?_eq_some_iff.1 hl).1, e2, fun σ₂ hσ => ?_⟩
        simp only [aStoreW, hσ, hl, h2, Option.map_some, List.set_set]
      · rename_i hy
        obtain ⟨l', B, e1, e2, e3, e4⟩ := aStore_one h
        obtain rfl : l = l' := (List.cons.inj e1).1
        refine ⟨l, B, rfl, e2, e3, fun σ₂ hσ => ?_⟩
        simp only [aStoreW, hσ, hl]
        exact e4 σ₂ hσ
    · rename_i h1 h2
      obtain ⟨l', B, e1, e2, e3, e4⟩ := aStore_one h
      obtain rfl : l = l' := (List.cons.inj e1).1
      refine ⟨l, B, rfl, e2, e3, fun σ₂ hσ => ?_⟩
      simp only [aStoreW, hσ]
      exact e4 σ₂ hσ
  · rename_i hx
    obtain ⟨l', B, e1, e2, e3, e4⟩ := aStore_one h
    refine ⟨l', B, e1, e2, e3, fun σ₂ hσ => ?_⟩
    unfold aStoreW
    split
    · rename_i l sz i j; exact absurd rfl (hx l sz i j)
    · exact e4 σ₂ hσ
theorem aMapSetW_one {tt : List TE} {t : Nat} {x k v : AV} {σ σ' : St} {c : Bool} (h : aMapSetW tt t x k v σ = some (c, σ')) : ∃ l B, rootMp x = [l] ∧ l < σ.length ∧ σ' = σ.set l B ∧ ∀ σ₂ : St, σ₂[l]? = σ[l]? → aMapSetW tt t x k v σ₂ = some (c, σ₂.set l B) := by
  unfold aMapSetW at h ⊢
  split at h
  · rename_i us
    unfold aMapSetS at h ⊢
    split at h
    case h_2 => cases h
    rename_i kt kd et z ks hm hks
    split at h
    case h_2 => cases h
    rename_i l vv
    split at h
    case h_2 => cases h
    rename_i es cl hl
    obtain ⟨rfl, rfl⟩ := Prod.mk.inj (Option.some.inj h)
    exact ⟨l, _, rfl, (List.getElem?_eq_some_iff.1 hl).1, rfl, fun σ₂ hσ => by simp only [hm, hks, hσ, hl]⟩
  · rename_i hk
    unfold aMapSet at h ⊢
    split at h
    case h_2 => cases h
    rename_i kt kd et z hm
    split at h
    case h_2 => cases h
    rename_i l kv vv
    split at h
    case h_2 => cases h
    rename_i es cl hl
    obtain ⟨rfl, rfl⟩ := Prod.mk.inj (Option.some.inj h)
    exact ⟨l, _, rfl, (List.getElem?_eq_some_iff.1 hl).1, rfl, fun σ₂ hσ => by simp only [hm, hσ, hl]⟩
theorem aAppendZ_loc {tt : List TE} {t t' : Nat} {x y : AV} {σ σ1 : St} {u : AV} (ha : aAppendZ tt t t' x y σ = some (true, u, σ1)) : (∀ m ∈ rootSl x ++ rootSl y, m < σ.length) ∧ σ1.length = σ.length + 1 ∧ (∀ m, m < σ.length → m ∉ rootSl x → σ1[m]? = σ[m]?) ∧
    ∀ σ₂ : St, σ₂.length = σ.length → (∀ m ∈ rootSl x ++ rootSl y, σ₂[m]? = σ[m]?) → ∃ σ₂' : St, aAppendZ tt t t' x y σ₂ = some (true, u, σ₂') ∧ σ₂'.length = σ.length + 1 ∧ (∀ m, m < σ.length → m ∉ rootSl x → σ₂'[m]? = σ₂[m]?) ∧ ∀ m, (m ∈ rootSl x ∨ σ.length ≤ m) → σ₂'[m]? = σ1[m]? := by
  unfold aAppendZ at ha ⊢
  split at ha
  case h_2 => cases ha
  rename_i e e' k n he he'
  split at ha
  case h_2 => cases ha
  rename_i el k' htd htd'
  split at ha
  case h_1 => cases ha
  rename_i ee hee
  split at ha
  case h_2 => cases ha
  rename_i b1 b2 b3 b4 b5
  simp only [Option.some.injEq, Prod.mk.injEq] at ha
  obtain ⟨hc, rfl, rfl⟩ := ha
  try simp only [he, he', htd, htd', hee, b1, b2, b3, b4, b5, hc]
  refine ⟨fun m hm => by simp [rootSl] at hm, by simp, fun m hm _ => List.getElem?_append_left hm, fun σ₂ hn h2 => ⟨_, by rw [hn], by simp [hn], fun m hm _ => List.getElem?_append_left (by omega), fun m hm => ?_⟩⟩
  rcases hm with hm | hm
  · simp [rootSl] at hm
  · rw [List.getElem?_append_right (by omega), List.getElem?_append_right hm, hn]
theorem doS_pure {tt : List TE} {cs : Ctrs} {kd : Kinds} {N : Nat} {ops : List Oper} (hp : KindsOk cs kd) {o : Oper} {f : List AV} {σ σ' : St} {u : AV} (hc : cls kd o.op = 0) (h : doS tt cs N ops o f σ = some (u, σ')) : σ' = σ ∧ ∀ σ₂, doS tt cs N ops o f σ₂ = some (u, σ₂) := by
  have hn : isNew o.op = false := by
    obtain ⟨dst, op, type, pos, after, guard⟩ := o
    cases op <;> first | rfl | (simp [cls] at hc)
  unfold doS at h ⊢
  simp only [hn] at h ⊢
  exact doV_pure hp hc h

theorem doS_loc {tt : List TE} {cs : Ctrs} {kd : Kinds} {N : Nat} {ops : List Oper} (hp : KindsOk cs kd) {o : Oper} {f : List AV} {σ σ' : St} {u : AV} (hc : cls kd o.op = 1) (h : doS tt cs N ops o f σ = some (u, σ')) : Loc (doS tt cs N ops o f) (labV kd N ops o f) σ u σ' := by
  have new : isNew o.op = true → labV kd N ops o f = (fun _ => ⟨0, [slotOf N ops o], [slotOf N ops o], false⟩) → Loc (doS tt cs N ops o f) (labV kd N ops o f) σ u σ' := by
    intro hn hl
    rw [hl]
    unfold doS at h
    simp only [hn] at h
    split at h
    case h_2 => cases h
    rename_i c u0 B ha
    split at h
    case h_2 => cases h
    rename_i hf
    cases c with
    | false => cases h
    | true =>
      simp only [cond, Option.some.injEq, Prod.mk.injEq] at h
      obtain ⟨rfl, rfl⟩ := h
      refine Loc.one (List.getElem?_eq_some_iff.1 hf).1 fun σ₂ h2 => ?_
      unfold doS
      simp only [hn, ha, h2, hf, cond]
  obtain ⟨dst, op, type, pos, after, guard⟩ := o
  simp only at hc
  cases op <;> simp only [cls] at hc <;> try (cases hc; done)
  case alloc => exact new rfl rfl
  case box => exact new rfl rfl
  case buildSlice => exact new rfl rfl
  case makeSlice => exact new rfl rfl
  case load t x =>
    simp only [doS, isNew, doV, aOp] at h
    show Loc _ (fun _ => ⟨0, rootOf (ev f x), [], false⟩) σ u σ'
    cases hl : aLoad tt t (ev f x) σ with
    | none => simp [hl, keep2] at h
    | some r =>
      obtain ⟨c, u1⟩ := r
      simp only [hl, keep2] at h
      cases c with
      | false => cases h
      | true =>
        simp only [cond, Option.some.injEq, Prod.mk.injEq] at h
        obtain ⟨rfl, rfl⟩ := h
        obtain ⟨h1, h2⟩ := aLoad_reads hl
        refine Loc.reads h1 fun σ₂ hσ => ?_
        simp only [doS, isNew, doV, aOp, h2 σ₂ hσ, keep2, cond]
  case convert s d x =>
    simp only [doS, isNew, doV, aOp] at h
    show Loc _ (fun _ => ⟨0, rootSl (ev f x), [], false⟩) σ u σ'
    cases ha : aConv tt s d (ev f x) with
    | some r =>
      obtain ⟨c, u1⟩ := r
      simp only [ha, keep2] at h
      cases c with
      | false => cases h
      | true =>
        simp only [cond, Option.some.injEq, Prod.mk.injEq] at h
        obtain ⟨rfl, rfl⟩ := h
        have hr : rootSl (ev f x) = [] := by
          unfold aConv at ha
          split at ha
          · rename_i hx; simp only [hx, rootSl]
          · cases ha
        rw [hr]
        refine Loc.reads (fun m hm => by simp at hm) fun σ₂ hσ => ?_
        simp only [doS, isNew, doV, aOp, ha, keep2, cond]
    | none =>
      simp only [ha] at h
      cases hl : aConvS tt s d (ev f x) σ with
      | none => simp [hl, keep2] at h
      | some r =>
        obtain ⟨c, u1⟩ := r
        simp only [hl, keep2] at h
        cases c with
        | false => cases h
        | true =>
          simp only [cond, Option.some.injEq, Prod.mk.injEq] at h
          obtain ⟨rfl, rfl⟩ := h
          obtain ⟨h1, h2⟩ := aConvS_reads hl
          refine Loc.reads h1 fun σ₂ hσ => ?_
          simp only [doS, isNew, doV, aOp, ha, h2 σ₂ hσ, keep2, cond]
  case mapUpdate t x k v =>
    simp only [doS, isNew, doV, aOp] at h
    show Loc _ (fun _ => ⟨0, rootMp (ev f x), rootMp (ev f x), false⟩) σ u σ'
    cases hl : aMapSetW tt t (ev f x) (ev f k) (ev f v) σ with
    | none => simp [hl] at h
    | some r =>
      obtain ⟨c, s1⟩ := r
      simp only [hl] at h
      cases c with
      | false => cases h
      | true =>
        simp only [cond, Option.some.injEq, Prod.mk.injEq] at h
        obtain ⟨rfl, rfl⟩ := h
        obtain ⟨l, B, e1, e2, rfl, e3⟩ := aMapSetW_one hl
        rw [e1]
        refine Loc.one e2 fun σ₂ hσ => ?_
        simp only [doS, isNew, doV, aOp, e3 σ₂ hσ, cond]
  case store t x y =>
    simp only [doS, isNew, doV, aOp] at h
    show Loc _ (fun _ => ⟨0, rootOf (ev f x), rootOf (ev f x), false⟩) σ u σ'
    cases hl : aStoreW tt t (ev f x) (ev f y) σ with
    | none => simp [hl] at h
    | some r =>
      obtain ⟨c, s1⟩ := r
      simp only [hl] at h
      cases c with
      | false => cases h
      | true =>
        simp only [cond, Option.some.injEq, Prod.mk.injEq] at h
        obtain ⟨rfl, rfl⟩ := h
        obtain ⟨l, B, e1, e2, rfl, e3⟩ := aStoreW_one hl
        rw [e1]
        refine Loc.one e2 fun σ₂ hσ => ?_
        simp only [doS, isNew, doV, aOp, e3 σ₂ hσ, cond]
  case call c =>
    obtain ⟨callee, args, ats⟩ := c
    cases callee with
    | value k =>
      cases k with
      | func g' =>
        simp only at hc
        simp only [doS, isNew, doV, ev, List.nil_append, List.append_nil] at h
        cases hk : kindOf kd g' with
        | none => simp [hk] at hc
        | some k =>
          cases hG : ctr cs g' with
          | none => rw [hG] at h; cases h
          | some G =>
            simp only [hG] at h
            split at h
            case h_2 => cases h
            rename_i c0 u0 σ0 h0
            cases c0 with
            | false => cases h
            | true =>
              simp only [cond, Option.some.injEq, Prod.mk.injEq] at h
              obtain ⟨rfl, rfl⟩ := h
              cases k with
              | pure => simp [hk] at hc
              | reads S =>
                obtain ⟨e1, h1, h2⟩ := hp g' _ G hk hG _ _ _ _ _ h0
                subst e1
                have hl : labV kd N ops ⟨dst, .call ⟨.value (.func g'), args, ats⟩, type, pos, after, guard⟩ f = fun _ => ⟨0, S (args.toList.map (ev f)), [], false⟩ := by funext σ; simp only [labV, hk]
                rw [hl]
                refine Loc.reads h1 fun σ₂ hσ => ?_
                simp only [doS, isNew, doV, ev, List.nil_append, List.append_nil, hG, h2 σ₂ hσ, cond]
              | foot S =>
                obtain ⟨g1, g2, g3, g4⟩ := hp g' _ G hk hG _ _ _ _ _ h0
                have hl : labV kd N ops ⟨dst, .call ⟨.value (.func g'), args, ats⟩, type, pos, after, guard⟩ f = fun σ => ⟨σ.length, S (args.toList.map (ev f)) σ, S (args.toList.map (ev f)) σ, true⟩ := by funext σ; simp only [labV, hk]
                rw [hl]
                refine ⟨g1, fun m hm => hm, fun _ => rfl, fun h => (by cases h), g2, g3, fun σ₂ hn hg => ?_⟩
                have hn := hn rfl
                obtain ⟨e1, σ₂', e2, e3, e4, e5⟩ := g4 σ₂ hn hg
                refine ⟨by simp only [e1, hn], σ₂', ?_, fun m hm hm' => e4 m (by omega) hm', fun m hm => e5 m (.inl hm), fun _ => ⟨e3, fun m hm => e5 m (.inr hm)⟩, fun h => (by cases h)⟩
                simp only [doS, isNew, doV, ev, List.nil_append, List.append_nil, hG, e2, cond]
      | _ => simp at hc
    | builtin b =>
      cases b <;> simp at hc
      case append =>
        obtain ⟨t, t', x, y, h1, h2⟩ : ∃ t t' x y, ats.toList = [t, t'] ∧ args.toList = [x, y] := by
          simp only [doS, isNew, doV, aOp] at h
          rcases hA : ats.toList with _ | ⟨t, _ | ⟨t', _ | ⟨_, _⟩⟩⟩ <;> rcases hB : args.toList with _ | ⟨x, _ | ⟨y, _ | ⟨_, _⟩⟩⟩ <;> first | exact ⟨_, _, _, _, rfl, rfl⟩ | (simp [hA, hB] at h)
        have hl : labV kd N ops ⟨dst, .call ⟨.builtin .append, args, ats⟩, type, pos, after, guard⟩ f = fun σ => ⟨σ.length, rootSl (ev f x) ++ rootSl (ev f y), rootSl (ev f x), true⟩ := by funext σ; simp only [labV, h2]
        rw [hl]
        have run : ∀ σ₂, doS tt cs N ops ⟨dst, .call ⟨.builtin .append, args, ats⟩, type, pos, after, guard⟩ f σ₂ = match (match Nat.beq t t' with | true => aAppV tt t (ev f x) (ev f y) σ₂ | false => aAppendZ tt t t' (ev f x) (ev f y) σ₂) with
            | some (c, u, σ') => cond c (some (u, σ')) none
            | none => none := fun σ₂ => by simp only [doS, isNew, doV, aOp, h1, h2]; rfl
        rw [run] at h
        split at h
        case h_2 => cases h
        rename_i c u1 σ1 ha
        cases c with
        | false => cases h
        | true =>
          simp only [cond, Option.some.injEq, Prod.mk.injEq] at h
          obtain ⟨rfl, rfl⟩ := h
          have key : (∀ m ∈ rootSl (ev f x) ++ rootSl (ev f y), m < σ.length) ∧ σ1.length = σ.length + 1 ∧ (∀ m, m < σ.length → m ∉ rootSl (ev f x) → σ1[m]? = σ[m]?) ∧
              ∀ σ₂ : St, σ₂.length = σ.length → (∀ m ∈ rootSl (ev f x) ++ rootSl (ev f y), σ₂[m]? = σ[m]?) → ∃ σ₂' : St, (match Nat.beq t t' with | true => aAppV tt t (ev f x) (ev f y) σ₂ | false => aAppendZ tt t t' (ev f x) (ev f y) σ₂) = some (true, u1, σ₂') ∧ σ₂'.length = σ.length + 1 ∧ (∀ m, m < σ.length → m ∉ rootSl (ev f x) → σ₂'[m]? = σ₂[m]?) ∧ ∀ m, (m ∈ rootSl (ev f x) ∨ σ.length ≤ m) → σ₂'[m]? = σ1[m]? := by
            split at ha
            · rename_i hb
              try simp only [hb]
              exact aAppV_loc ha
            · rename_i hb
              try simp only [hb]
              exact aAppendZ_loc ha
          obtain ⟨k1, k2, k3, k4⟩ := key
          refine ⟨k1, fun m hm => List.mem_append_left _ hm, fun _ => rfl, fun h => (by cases h), by omega, k3, fun σ₂ hn hg => ?_⟩
          have hn := hn rfl
          obtain ⟨σ₂', e1, e2, e3, e4⟩ := k4 σ₂ hn hg
          refine ⟨by simp only [hn], σ₂', ?_, fun m hm hm' => e3 m (by omega) hm', fun m hm => e4 m (.inl hm), fun _ => ⟨by rw [e2, k2], fun m hm => e4 m (.inr hm)⟩, fun h => (by cases h)⟩
          rw [run, e1]
          rfl
    | _ => simp at hc

/-! ### The same of operations that may not be wanted -/
theorem valS_pure {tt : List TE} {cs : Ctrs} {kd : Kinds} {N : Nat} (hp : KindsOk cs kd) {ops : List Oper} {o : Oper} {f : List AV} {σ σ' : St} {u : AV} (hc : cls kd o.op = 0) (h : valS tt cs N ops o f σ = some (u, σ')) : σ' = σ ∧ ∀ σ₂, valS tt cs N ops o f σ₂ = some (u, σ₂) := by
  unfold valS at h ⊢
  split at h
  · exact doS_pure hp hc h
  · split at h
    · rename_i want _ _ b _
      simp only [cnd_eq] at h ⊢
      cases hq : (b == want)
      · rw [hq] at h; simp only [cond, Option.some.injEq, Prod.mk.injEq] at h; obtain ⟨rfl, rfl⟩ := h; exact ⟨rfl, fun _ => (by first | rfl | simp)⟩
      · rw [hq] at h; exact doS_pure hp hc h
    · simp only [Option.some.injEq, Prod.mk.injEq] at h; obtain ⟨rfl, rfl⟩ := h; exact ⟨rfl, fun _ => rfl⟩
    · cases h
theorem labV_pure {kd : Kinds} {N : Nat} {ops : List Oper} {o : Oper} {f : List AV} {σ : St} (hc : cls kd o.op = 0) : labV kd N ops o f σ = lab0 := by
  obtain ⟨dst, op, type, pos, after, guard⟩ := o
  simp only at hc
  cases op <;> simp only [cls] at hc <;> first | rfl | (cases hc; done) | skip
  case call c =>
    obtain ⟨callee, args, ats⟩ := c
    cases callee with
    | value k =>
      cases k with
      | func g' =>
        simp only at hc
        cases hk : kindOf kd g' with
        | none => simp [hk] at hc
        | some k => cases k <;> simp [hk] at hc; simp only [labV, hk]
      | _ => simp at hc
    | builtin b => cases b <;> first | rfl | simp at hc
    | _ => simp at hc
theorem labF_pure {kd : Kinds} {N : Nat} {ops : List Oper} {o : Oper} {f : List AV} {σ : St} (hc : cls kd o.op = 0) : labF kd N ops o f σ = lab0 := by
  unfold labF
  split
  · exact labV_pure hc
  · split
    · rename_i b _
      rw [labV_pure hc, cnd_eq]
      cases (b == _) <;> rfl
    · rfl
theorem Loc.none {run : St → Option (AV × St)} {σ : St} {u : AV} (h : ∀ σ₂, run σ₂ = some (u, σ₂)) : Loc run (fun _ => lab0) σ u σ := Loc.reads (fun m hm => by simp at hm) fun σ₂ _ => h σ₂
theorem valS_loc {tt : List TE} {cs : Ctrs} {kd : Kinds} {N : Nat} (hp : KindsOk cs kd) {ops : List Oper} {o : Oper} {f : List AV} {σ σ' : St} {u : AV} (hc : cls kd o.op = 1) (h : valS tt cs N ops o f σ = some (u, σ')) : Loc (valS tt cs N ops o f) (labF kd N ops o f) σ u σ' := by
  cases hg : o.guard with
  | none =>
    have e1 : valS tt cs N ops o f = doS tt cs N ops o f := by funext σ; simp only [valS, hg]
    have e2 : labF kd N ops o f = labV kd N ops o f := by funext σ; simp only [labF, hg]
    rw [e1] at h ⊢
    rw [e2]
    exact doS_loc hp hc h
  | some jw =>
    obtain ⟨j, want⟩ := jw
    cases hb : gval ops f j with
    | none => simp [valS, hg, hb] at h
    | some b =>
      cases b with
      | none =>
        have e1 : valS tt cs N ops o f = fun σ => some (.v undef, σ) := by funext σ; simp only [valS, hg, hb]
        have e2 : labF kd N ops o f = fun _ => lab0 := by funext σ; simp only [labF, hg, hb]
        rw [e1] at h ⊢
        simp only [Option.some.injEq, Prod.mk.injEq] at h
        obtain ⟨rfl, rfl⟩ := h
        rw [e2]
        exact Loc.none fun _ => rfl
      | some b =>
        cases hq : (b == want) with
        | false =>
          have e1 : valS tt cs N ops o f = fun σ => some (.v undef, σ) := by funext σ; simp only [valS, hg, hb, cnd_eq, hq, cond]
          have e2 : labF kd N ops o f = fun _ => lab0 := by funext σ; simp only [labF, hg, hb, cnd_eq, hq, cond]
          rw [e1] at h ⊢
          simp only [Option.some.injEq, Prod.mk.injEq] at h
          obtain ⟨rfl, rfl⟩ := h
          rw [e2]
          exact Loc.none fun _ => rfl
        | true =>
          have e1 : valS tt cs N ops o f = doS tt cs N ops o f := by funext σ; simp only [valS, hg, hb, cnd_eq, hq, cond]
          have e2 : labF kd N ops o f = labV kd N ops o f := by funext σ; simp only [labF, hg, hb, cnd_eq, hq, cond]
          rw [e1] at h ⊢
          rw [e2]
          exact doS_loc hp hc h

theorem put_put (f : List AV) {x y : Option Nat} (u v : AV) (h : ∀ d, x = some d → y ≠ some d) : put1 (put1 f x u) y v = put1 (put1 f y v) x u := by
  cases x with
  | none => rfl
  | some d => cases y with
    | none => rfl
    | some e =>
      have : d ≠ e := fun he => h d rfl (by rw [he])
      simp only [put1]
      rw [List.set_comm _ _ this]

/-- Roots apart. -/
def apartS (S S' : List Nat) : Bool := S.all fun l => !(S'.any (Nat.beq l))
theorem apartS_spec {S S' : List Nat} (h : apartS S S' = true) : ∀ l ∈ S, l ∉ S' := fun l hl hl' => by
  have := List.all_eq_true.1 h l hl
  have h2 : S'.any (Nat.beq l) = true := List.any_eq_true.2 ⟨l, hl', Nat.beq_refl l⟩
  rw [h2] at this
  cases this
/-- Two operations that may change places, by their labels: the first one stands ahead in the text. -/
def indepL (lx ly : Lab) : Bool :=
  apartS lx.wr ly.rd && (apartS ly.wr lx.rd && match lx.ap with
    | true => !ly.ap && ly.rd.all fun l => Nat.blt l lx.n
    | false => true)
def indep (kd : Kinds) (ops : Array Oper) (x y : Oper) (lx ly : Lab) : Bool :=
  x.apart ops y && match cls kd x.op, cls kd y.op with
    | 0, _ => true
    | _, 0 => true
    | 1, 1 => indepL lx ly
    | _, _ => false

theorem swap {tt : List TE} {cs : Ctrs} {kd : Kinds} {N : Nat} (hp : KindsOk cs kd) {ops : Array Oper} {x y : Oper} {lx ly : Lab} (hi : indep kd ops x y lx ly = true) {f f₁ f₂ : List AV} {σ σ₁ σ₂ : St}
    (h1 : stepS tt cs N ops.toList x f σ = some (f₁, σ₁)) (l1 : labF kd N ops.toList x f σ = lx) (h2 : stepS tt cs N ops.toList y f₁ σ₁ = some (f₂, σ₂)) (l2 : labF kd N ops.toList y f₁ σ₁ = ly) :
    ∃ g τ, stepS tt cs N ops.toList y f σ = some (g, τ) ∧ labF kd N ops.toList y f σ = ly ∧ stepS tt cs N ops.toList x g τ = some (f₂, σ₂) ∧ labF kd N ops.toList x g τ = lx := by
  simp only [indep, Bool.and_eq_true] at hi
  obtain ⟨hap, hcl⟩ := hi
  obtain ⟨a1, a2, a3⟩ := Oper.apart_spec hap
  unfold stepS at h1 h2
  split at h1
  case h_2 => cases h1
  rename_i ux σx hx
  simp only [Option.some.injEq, Prod.mk.injEq] at h1
  obtain ⟨rfl, rfl⟩ := h1
  split at h2
  case h_2 => cases h2
  rename_i uy σy hy
  simp only [Option.some.injEq, Prod.mk.injEq] at h2
  obtain ⟨rfl, rfl⟩ := h2
  rw [valS_put a1] at hy
  rw [labF_put a1] at l2
  have done : ∀ τ, valS tt cs N ops.toList y f σ = some (uy, τ) → labF kd N ops.toList y f σ = ly → valS tt cs N ops.toList x f τ = some (ux, σy) → labF kd N ops.toList x f τ = lx → ∃ g τ, stepS tt cs N ops.toList y f σ = some (g, τ) ∧ labF kd N ops.toList y f σ = ly ∧ stepS tt cs N ops.toList x g τ = some (put1 (put1 f x.dst ux) y.dst uy, σy) ∧ labF kd N ops.toList x g τ = lx := by
    intro τ e1 e2 e3 e4
    refine ⟨put1 f y.dst uy, τ, by unfold stepS; rw [e1], e2, ?_, by rw [labF_put a3]; exact e4⟩
    unfold stepS
    rw [valS_put a3, e3, put_put f ux uy a2]
  split at hcl
  · rename_i hcx
    obtain ⟨rfl, hx'⟩ := valS_pure hp hcx hx
    exact done _ hy l2 (hx' _) (by rw [labF_pure hcx] at l1 ⊢; exact l1)
  · rename_i hcy _
    obtain ⟨rfl, hy'⟩ := valS_pure hp hcy hy
    exact done _ (hy' _) (by rw [labF_pure hcy] at l2 ⊢; exact l2) hx l1
  · rename_i hcx hcy
    have Lx := valS_loc hp hcx hx
    have Ly := valS_loc hp hcy hy
    obtain ⟨x1, x2, x3, x4, x5, x6, x7⟩ := Lx
    obtain ⟨y1, y2, y3, y4, y5, y6, y7⟩ := Ly
    rw [l1] at x1 x2 x3 x4 x6 x7
    rw [l2] at y1 y2 y3 y4 y6 y7
    simp only [indepL, Bool.and_eq_true] at hcl
    obtain ⟨c1, c2, c3⟩ := hcl
    have c1 := apartS_spec c1
    have c2 := apartS_spec c2
    have cap : lx.ap = true → ly.ap = false ∧ ∀ m ∈ ly.rd, m < σ.length := fun h => by
      rw [h] at c3
      simp only [Bool.and_eq_true, Bool.not_eq_true'] at c3
      refine ⟨c3.1, fun m hm => ?_⟩
      have := List.all_eq_true.1 c3.2 m hm
      rw [← x3 h]
      simpa [Nat.blt_eq] using this
    have yap : ly.ap = true → lx.ap = false := fun h => by
      cases hxa : lx.ap with
      | false => rfl
      | true => rw [(cap hxa).1] at h; cases h
    have rdlt : ∀ m ∈ ly.rd, m < σ.length := fun m hm => by
      cases hxa : lx.ap with
      | false => rw [← x4 hxa]; exact y1 m hm
      | true => exact (cap hxa).2 m hm
    obtain ⟨e1, τ, e2, e3, e4, e5, e6⟩ := y7 σ (fun h => (x4 (yap h)).symm) fun m hm => (x6 m (rdlt m hm) fun hw => c1 m hw hm).symm
    have τlen : lx.ap = true → τ.length = σ.length := fun h => e6 (cap h).1
    obtain ⟨g1, ρ, g2, g3, g4, g5, g6⟩ := x7 τ τlen fun m hm => e3 m (x1 m hm) fun hw => c2 m hw hm
    have hτ : σ.length ≤ τ.length := by
      cases hya : ly.ap with
      | false => exact Nat.le_of_eq (e6 hya).symm
      | true => rw [(e5 hya).1]; exact Nat.le_trans x5 y5
    have hρ : ρ = σy := by
      apply List.ext_getElem?
      intro m
      by_cases hwx : m ∈ lx.wr
      · have hmx := x1 m (x2 m hwx)
        rw [g4 m hwx]
        exact (y6 m (Nat.lt_of_lt_of_le hmx x5) fun hw => c2 m hw (x2 m hwx)).symm
      · by_cases hwy : m ∈ ly.wr
        · have hmy := rdlt m (y2 m hwy)
          rw [g3 m (Nat.lt_of_lt_of_le hmy hτ) hwx]
          exact e4 m hwy
        · rcases Nat.lt_or_ge m σ.length with hm | hm
          · rw [g3 m (Nat.lt_of_lt_of_le hm hτ) hwx, e3 m hm hwy, y6 m (Nat.lt_of_lt_of_le hm x5) hwy, x6 m hm hwx]
          · cases hxa : lx.ap with
            | true =>
              have hya := (cap hxa).1
              obtain ⟨q1, q2⟩ := g5 hxa
              rw [q2 m hm]
              rcases Nat.lt_or_ge m σx.length with hm2 | hm2
              · exact (y6 m hm2 hwy).symm
              · rw [List.getElem?_eq_none hm2, List.getElem?_eq_none (by rw [y4 hya]; exact hm2)]
            | false =>
              have q1 := g6 hxa
              have q2 := x4 hxa
              cases hya : ly.ap with
              | true =>
                obtain ⟨r1, r2⟩ := e5 hya
                rcases Nat.lt_or_ge m τ.length with hm2 | hm2
                · rw [g3 m hm2 hwx]; exact r2 m (by omega)
                · rw [List.getElem?_eq_none (by omega), List.getElem?_eq_none (by omega)]
              | false =>
                have r1 := e6 hya
                have r2 := y4 hya
                rw [List.getElem?_eq_none (by omega), List.getElem?_eq_none (by omega)]
    subst hρ
    exact done τ e2 e1 g2 g1
  · cases hcl

section
variable {P : Program} {tt : List TE} (ht : TTok P tt) {cs : Ctrs} (hcs : CtrsOk P cs)
include ht hcs
omit hcs in
/-- What an operation that makes a root comes to. -/
theorem newOp_ok {F0 : Nat → Nat → Prop} {W0 : World} {R : Nat → Prop} {φ : Phi} {σ : St} {f : List AV} {tmps : Array Value} {W : World} (h : Rel F0 W0 R φ σ f tmps W) {l : Nat} (hsl : σ[l]? = some .free) (ds : List Deferred)
    {o : Oper} (hn : isNew o.op = true) {u : AV} {B : Blk} (ha : aOp tt o.op f [] = some (true, u, [B])) :
    ∃ v W' φ', (execOp (Act.mk tmps ds).eval o).run P W = .ok (.value v) W' ∧ Ext φ φ' ∧ Rel F0 W0 R φ' (σ.set l B) f tmps W' ∧ VR R φ' W' (atR l u) v := by
  have ev' := fun x => ev_ok h ds x
  obtain ⟨dst, op, type, pos, after, guard⟩ := o
  simp only at ha hn
  cases op <;> simp only [isNew] at hn <;> try (cases hn; done)
  case alloc t =>
    simp only [aOp] at ha
    split at ha
    case h_2 => cases ha
    rename_i u1 s1 h1
    simp only [Option.some.injEq, Prod.mk.injEq, true_and] at ha
    obtain ⟨rfl, rfl⟩ := ha
    obtain ⟨y, W', φ', r1, rx, r2, r3⟩ := aAlloc_okS (P := P) ht h hsl h1
    exact ⟨y, W', φ', run_v r1, rx, r2, r3⟩
  case box t x =>
    simp only [aOp] at ha
    split at ha
    case h_2 => cases ha
    rename_i u1 s1 h1
    simp only [Option.some.injEq, Prod.mk.injEq, true_and] at ha
    obtain ⟨rfl, rfl⟩ := ha
    obtain ⟨y, W', φ', r1, rx, r2, r3⟩ := aBox_okS (P := P) h hsl (ev' x) h1 t
    exact ⟨y, W', φ', run_v r1, rx, r2, r3⟩
  case buildSlice t n ps =>
    simp only [aOp] at ha
    obtain ⟨p1, p2⟩ := evP_rel h ds ps
    obtain ⟨y, W', φ', r1, rx, r2, r3⟩ := aBuildSlice_okS (P := P) ht h hsl p1 p2 ha
    have e : (ps.map fun x => match x with | (i, x) => (i, (Act.mk tmps ds).eval x)) = (ps.toList.map fun p => (p.1, (Act.mk tmps ds).eval p.2)).toArray := by rw [← Array.toList_map]
    simp only [execOp]
    rw [e]; exact ⟨y, W', φ', run_v r1, rx, r2, r3⟩
  case makeSlice t l' c' =>
    simp only [aOp] at ha
    cases hs : sameOp l' c' with
    | false => simp [hs] at ha
    | true =>
      obtain rfl := sameOp_eq hs
      simp only [hs] at ha
      obtain ⟨y, W', φ', r1, rx, r2, r3⟩ := aMake_okS (P := P) ht h hsl (ev' l') ha rfl
      exact ⟨y, W', φ', run_v r1, rx, r2, r3⟩
theorem doS_ok {E : Ent} {r : Option Nat} {N : Nat} {ops : List Oper} {o : Oper} {f : List AV} {σ : St} {a : Act} {w : World} (h : Holds E f σ a w) {u : AV} {σ' : St} (hr : doS tt cs N ops o f σ = some (u, σ')) {next : Act → World → Prop} {Q : Exit → Act → World → Prop}
    (hn : ∀ a' w', Holds E (put1 f o.dst u) σ' a' w' → next a' w') : o.wpIn (fen r) 0 P a w next Q := by
  unfold doS at hr
  split at hr
  · rename_i hnew
    split at hr
    case h_2 => cases hr
    rename_i c u0 B ha
    split at hr
    case h_2 => cases hr
    rename_i hf
    cases c with
    | false => cases hr
    | true =>
      simp only [cond, Option.some.injEq, Prod.mk.injEq] at hr
      obtain ⟨rfl, rfl⟩ := hr
      obtain ⟨R, φ, hT, hl, hf', hm⟩ := h
      obtain ⟨v, W', φ', h1, h3, h4, h5⟩ := newOp_ok ht (localRel hT.sim hl hf') hf a.defers hnew ha
      rw [← Act.eta] at h1
      exact owp_value (fun c h => by rw [h] at hnew; cases hnew) h1 (.inl rfl) (hn _ _ (Holds.step hT hl hf' hm (turn_of_rel (fun _ h => h) (fun _ h => .inl h) h3 h4) h5 _))
  · exact doV_ok ht hcs h hr hn
/-- A step, where the operation is the one that stands there. -/
theorem stepS_ok {E : Ent} {r : Option Nat} {N : Nat} {ops : Array Oper} {o : Oper} {f : List AV} {σ : St} {a : Act} {w : World} (h : Holds E f σ a w) {f' : List AV} {σ' : St} (hs : stepS tt cs N ops.toList o f σ = some (f', σ')) {next : Act → World → Prop} {Q : Exit → Act → World → Prop}
    (hn : ∀ a' w', Holds E f' σ' a' w' → next a' w') : if Region.wanted o (yielded ops a.tmps) then o.wpIn (fen r) 0 P a w next Q else (∀ f, o.about P w a.eval = some f → (fen r).fn f) ∧ next (a.put o.dst undef) w := by
  unfold stepS at hs
  split at hs
  case h_2 => cases hs
  rename_i u σ1 hv
  simp only [Option.some.injEq, Prod.mk.injEq] at hs
  obtain ⟨rfl, rfl⟩ := hs
  have h0 := h
  obtain ⟨R, φ, hT, hl, hf, hm⟩ := h
  unfold valS at hv
  cases hgd : o.guard with
  | none =>
    simp only [hgd] at hv
    rw [if_pos (by simp [Region.wanted, hgd])]
    exact doS_ok ht hcs h0 hv hn
  | some jw =>
    obtain ⟨j, want⟩ := jw
    simp only [hgd] at hv
    cases hgv : gval ops.toList f j with
    | none => simp [hgv] at hv
    | some b =>
      have hy := gval_ok hl hf hgv
      cases b with
      | none =>
        simp only [hgv, Option.some.injEq, Prod.mk.injEq] at hv
        obtain ⟨rfl, rfl⟩ := hv
        rw [if_neg (by simp [Region.wanted, hgd, hy])]
        exact ⟨fun f _ => fen_fn r f, hn _ _ (Holds.step hT hl hf hm (Turn.refl hT.sim) (.imm (.v _)) _)⟩
      | some b =>
      simp only [hgv, cnd_eq] at hv
      cases hbw : (b == want) with
      | true =>
        simp only [hbw, cond] at hv
        rw [if_pos (by simp only [Region.wanted, hgd, hy]; simpa using hbw)]
        exact doS_ok ht hcs h0 hv hn
      | false =>
        simp only [hbw, cond, Option.some.injEq, Prod.mk.injEq] at hv
        obtain ⟨rfl, rfl⟩ := hv
        rw [if_neg (by simp only [Region.wanted, hgd, hy]; simpa using hbw)]
        exact ⟨fun f _ => fen_fn r f, hn _ _ (Holds.step hT hl hf hm (Turn.refl hT.sim) (.imm (.v _)) _)⟩

end

/-- Places for roots that are to be made. -/
theorem Holds.frees {E : Ent} {f : List AV} {σ : St} {a : Act} {w : World} (h : Holds E f σ a w) (k : Nat) : Holds E f (σ ++ List.replicate k .free) a w := by
  obtain ⟨R, φ, hT, hl, hf, hm⟩ := h
  have get : ∀ (m : Nat) (B : Blk), (σ ++ List.replicate k .free)[m]? = some B → σ[m]? = some B ∨ (B = .free ∧ σ.length ≤ m) := fun m B e => by
    rw [List.getElem?_append] at e
    split at e
    · exact .inl e
    · rw [List.getElem?_replicate] at e
      split at e
      · exact .inr ⟨(Option.some.inj e).symm, by omega⟩
      · cases e
  have ownd : ∀ b j, Owned φ (σ ++ List.replicate k .free) b j → Owned φ σ b j := fun b j ⟨l, B, e, w⟩ => by
    rcases get l B e with e | ⟨rfl, _⟩
    · exact ⟨l, B, e, w⟩
    · exact w.elim
  refine ⟨R, φ, ⟨hT.hR, hT.hR', hT.ext, ⟨fun l B e => ?_, fun l l' B B' hne e e' b j j' w w' => ?_, fun l B e b j w => ?_, hT.sim.old, fun l hl => hT.sim.dom l (by simp at hl; omega)⟩, fun b j hw => hT.reg b j (ownd b j hw), hT.keep⟩, hl, hf, hm⟩
  · rcases get l B e with e | ⟨rfl, hge⟩
    · exact hT.sim.blk l B e
    · exact hT.sim.dom l hge
  · rcases get l B e with e | ⟨rfl, _⟩
    · rcases get l' B' e' with e' | ⟨rfl, _⟩
      · exact hT.sim.sep l l' B B' hne e e' b j j' w w'
      · exact w'.elim
    · exact w.elim
  · rcases get l B e with e | ⟨rfl, _⟩
    · exact hT.sim.ro l B e b j w
    · exact w.elim

/-! ### Any order -/
/-- Which operations must be done ahead of one, at once. -/
def bef (o : Oper) : List Nat := (o.after.toList.filter fun e => Region.binds .any e).map (·.on)
/-- And by way of others. -/
def clo (ops : List Oper) : Nat → Nat → List Nat
  | 0, _ => []
  | n + 1, i => match ops[i]? with
    | some o => bef o ++ (bef o).flatMap (clo ops n)
    | none => []

def insN (x : Nat) (l : List Nat) : List Nat := match l.any (Nat.beq x) with
  | true => l
  | false => x :: l
def uniN (a b : List Nat) : List Nat := a.foldr insN b
/-- What must be ahead of an operation, where it is told of those ahead of it. -/
def cloE (T : List (List Nat)) (o : Oper) : List Nat := (bef o).foldr (fun p acc => insN p (uniN (T.getD p []) acc)) []
def chkD (kd : Kinds) (ops : Array Oper) (y : Oper) (ly : Lab) (c : List Nat) : Nat → List Oper → List Lab → Nat → Bool
  | 0, _, _, _ => true
  | n + 1, x :: xs, lx :: ls, j => (match c.any (Nat.beq j) with
    | true => true
    | false => indep kd ops x y lx ly) && chkD kd ops y ly c n xs ls (j + 1)
  | _ + 1, _, _, _ => false
def okD (kd : Kinds) (ops : Array Oper) (all : List Oper) (labs : List Lab) : List Oper → List Lab → Nat → List (List Nat) → Bool
  | [], _, _, _ => true
  | y :: l, ly :: ls, i, T => normL (cloE T y) fun c => ((bef y).all fun p => Nat.blt p i) && (chkD kd ops y ly c i all labs 0 && normL (T ++ [c]) fun T => okD kd ops all labs l ls (i + 1) T)
  | _ :: _, [], _, _ => false
/-- Each operation may be done in any order that is left open. -/
def okDraw (kd : Kinds) (ops : Array Oper) (labs : List Lab) : Bool := okD kd ops ops.toList labs ops.toList labs 0 []
theorem insN_mem {x y : Nat} {l : List Nat} (h : y ∈ insN x l) : y = x ∨ y ∈ l := by
  unfold insN at h
  split at h
  · exact .inr h
  · exact List.mem_cons.1 h
theorem uniN_mem {a b : List Nat} {y : Nat} (h : y ∈ uniN a b) : y ∈ a ∨ y ∈ b := by
  induction a with
  | nil => exact .inr h
  | cons x a ih =>
    rcases insN_mem (l := uniN a b) h with rfl | h
    · exact .inl List.mem_cons_self
    · rcases ih h with h | h
      · exact .inl (List.mem_cons_of_mem _ h)
      · exact .inr h
theorem cloE_mem {T : List (List Nat)} {o : Oper} {y : Nat} (h : y ∈ cloE T o) : ∃ p ∈ bef o, y = p ∨ y ∈ T.getD p [] := by
  unfold cloE at h
  generalize bef o = ps at h
  induction ps with
  | nil => simp at h
  | cons p ps ih =>
    rcases insN_mem h with rfl | h
    · exact ⟨y, List.mem_cons_self, .inl rfl⟩
    · rcases uniN_mem h with h | h
      · exact ⟨p, List.mem_cons_self, .inr h⟩
      · obtain ⟨q, hq, h⟩ := ih h
        exact ⟨q, List.mem_cons_of_mem _ hq, h⟩
theorem chkD_spec {kd : Kinds} {ops : Array Oper} {y : Oper} {ly : Lab} {c : List Nat} : ∀ (n : Nat) (xs : List Oper) (ls : List Lab) (j : Nat), chkD kd ops y ly c n xs ls j = true → ∀ k x, k < n → xs[k]? = some x → (j + k) ∈ c ∨ indep kd ops x y (ls.getD k lab0) ly = true := by
  intro n
  induction n with
  | zero => intro xs ls j _ k x hk; omega
  | succ n ih =>
    intro xs ls j h k x hk hx
    cases xs with
    | nil => simp at hx
    | cons x0 xs =>
      cases ls with
      | nil => simp [chkD] at h
      | cons l0 ls =>
        simp only [chkD, Bool.and_eq_true] at h
        cases k with
        | zero =>
          simp at hx; subst hx
          have h1 := h.1
          split at h1
          · rename_i hc
            obtain ⟨z, hz, he⟩ := List.any_eq_true.1 hc
            rw [show j + 0 = z from Nat.eq_of_beq_eq_true he]; exact .inl hz
          · exact .inr (by simpa using h1)
        | succ k =>
          have := ih xs ls (j + 1) h.2 k x (by omega) (by simpa using hx)
          rcases this with h1 | h1
          · exact .inl (by rw [show j + (k + 1) = j + 1 + k by omega]; exact h1)
          · exact .inr (by simpa using h1)
theorem okD_spec {kd : Kinds} {ops : Array Oper} {labs : List Lab} : ∀ (l : List Oper) (ls : List Lab) (i : Nat) (T : List (List Nat)), okD kd ops ops.toList labs l ls i T = true → l = ops.toList.drop i → ls = labs.drop i → T.length = i → (∀ k, k < i → ∀ j ∈ T.getD k [], ∃ m, j ∈ clo ops.toList m k) →
    ∀ k y, i ≤ k → ops.toList[k]? = some y → (∀ p ∈ bef y, p < k) ∧ ∀ j x, j < k → ops.toList[j]? = some x → (∃ m, j ∈ clo ops.toList m k) ∨ indep kd ops x y (labs.getD j lab0) (labs.getD k lab0) = true := by
  intro l
  induction l with
  | nil =>
    intro ls i T _ hl _ _ _ k y hk hy
    have h1 := (List.getElem?_eq_some_iff.1 hy).1
    have h2 : (ops.toList.drop i).length = 0 := by rw [← hl]; rfl
    simp at h2
    simp at h1
    omega
  | cons y l ih =>
    intro ls i T h hl hls hT hinv
    cases ls with
    | nil => simp [okD] at h
    | cons ly ls =>
      simp only [okD, normL_eq, Bool.and_eq_true] at h
      obtain ⟨h1, h2, h3⟩ := h
      have hi : i < ops.toList.length := by
        rcases Nat.lt_or_ge i ops.toList.length with g | g
        · exact g
        · rw [List.drop_eq_nil_of_le g] at hl; cases hl
      have hd := List.drop_eq_getElem_cons hi
      rw [hd] at hl
      obtain ⟨e1, e2⟩ := List.cons.inj hl
      have hli : i < labs.length := by
        rcases Nat.lt_or_ge i labs.length with g | g
        · exact g
        · rw [List.drop_eq_nil_of_le g] at hls; cases hls
      rw [List.drop_eq_getElem_cons hli] at hls
      obtain ⟨f1, f2⟩ := List.cons.inj hls
      have hyi : ops.toList[i]? = some y := by rw [List.getElem?_eq_getElem hi, e1]
      have hbl : ∀ p ∈ bef y, p < i := fun p hp => by simpa [Nat.blt_eq] using List.all_eq_true.1 h1 p hp
      have hc : ∀ j ∈ cloE T y, ∃ m, j ∈ clo ops.toList m i := fun j hj => by
        obtain ⟨p, hp, hj⟩ := cloE_mem hj
        rcases hj with rfl | hj
        · exact ⟨1, by simp only [clo, hyi]; exact List.mem_append_left _ hp⟩
        · obtain ⟨m, hm⟩ := hinv p (hbl p hp) j hj
          exact ⟨m + 1, by simp only [clo, hyi]; exact List.mem_append_right _ (List.mem_flatMap.2 ⟨p, hp, hm⟩)⟩
      have rest := ih ls (i + 1) (T ++ [cloE T y]) h3 e2 f2 (by simp [hT]) fun k hk j hj => by
        rw [List.getD_eq_getElem?_getD, List.getElem?_append] at hj
        split at hj
        · rename_i hkT
          exact hinv k (by omega) j (by rw [List.getD_eq_getElem?_getD]; exact hj)
        · rename_i hkT
          have : k = i := by omega
          subst this
          rw [hT, Nat.sub_self] at hj
          exact hc j hj
      intro k y' hk hy'
      rcases Nat.lt_or_ge i k with g | g
      · exact rest k y' g hy'
      · have : k = i := by omega
        subst this
        rw [hyi] at hy'
        obtain rfl := Option.some.inj hy'
        refine ⟨hbl, fun j x hj hx => ?_⟩
        have hly : labs.getD k lab0 = ly := by rw [List.getD_eq_getElem?_getD, List.getElem?_eq_getElem hli, Option.getD_some, f1]
        rw [hly]
        rcases chkD_spec k ops.toList labs 0 h2 j x hj hx with h | h
        · rw [Nat.zero_add] at h; exact .inl (hc j h)
        · exact .inr h

/-- The labels, in the text's order. -/
def labsF (tt : List TE) (cs : Ctrs) (kd : Kinds) (N : Nat) (ops : List Oper) : List Oper → List AV → St → List Lab
  | [], _, _ => []
  | o :: l, f, σ => labF kd N ops o f σ :: match stepS tt cs N ops o f σ with
    | some (f', σ') => labsF tt cs kd N ops l f' σ'
    | none => []

/-- Operations by their places, each with its label. -/
def idxP (tt : List TE) (cs : Ctrs) (kd : Kinds) (N : Nat) (ops : Array Oper) (labs : List Lab) (f2 : List AV) (σ2 : St) : List Nat → List AV → St → Prop
  | [], f, σ => f = f2 ∧ σ = σ2
  | i :: l, f, σ => ∃ o f' σ', ops[i]? = some o ∧ stepS tt cs N ops.toList o f σ = some (f', σ') ∧ labF kd N ops.toList o f σ = labs.getD i lab0 ∧ idxP tt cs kd N ops labs f2 σ2 l f' σ'

theorem idx_front {tt : List TE} {cs : Ctrs} {kd : Kinds} {N : Nat} (hp : KindsOk cs kd) {ops : Array Oper} {labs : List Lab} {i : Nat} {y : Oper} (hy : ops[i]? = some y) {l2 : List Nat} {f2 : List AV} {σ2 : St} : ∀ (l1 : List Nat) (f : List AV) (σ : St), (∀ j ∈ l1, ∀ x, ops[j]? = some x → indep kd ops x y (labs.getD j lab0) (labs.getD i lab0) = true) →
    idxP tt cs kd N ops labs f2 σ2 (l1 ++ i :: l2) f σ → idxP tt cs kd N ops labs f2 σ2 (i :: (l1 ++ l2)) f σ := by
  intro l1
  induction l1 with
  | nil => intro f σ _ h; exact h
  | cons j l1 ih =>
    intro f σ hi h
    obtain ⟨x, f1, σ1, hx, hs, hl, h⟩ := h
    obtain ⟨y', f3, σ3, hy', hs2, hl2, h'⟩ := ih f1 σ1 (fun k hk => hi k (List.mem_cons_of_mem _ hk)) h
    rw [hy] at hy'
    obtain rfl := Option.some.inj hy'
    obtain ⟨g, τ, e1, e2, e3, e4⟩ := swap hp (hi j (List.mem_cons_self) x hx) hs hl hs2 hl2
    exact ⟨y, g, τ, hy, e1, e2, x, f3, σ3, hx, e3, e4, h'⟩

section
variable {P : Program} {tt : List TE} (ht : TTok P tt) {cs : Ctrs} (hcs : CtrsOk P cs) {kd : Kinds} (hp : KindsOk cs kd)
include ht hcs hp

theorem any_ok {N : Nat} {ops : Array Oper} {labs : List Lab} (hd : okDraw kd ops labs = true) {E : Ent} {r : Option Nat} {Q : Exit → Act → World → Prop} {f' : List AV} {σ' : St} (hq : ∀ a' w', Holds E f' σ' a' w' → Q .normal a' w') : ∀ (n : Nat) (L : List Nat) (listed : Array Bool) {f : List AV} {σ : St} {a : Act} {w : World}, L.length = n →
    listed.size = ops.size → L.Pairwise (· < ·) → (∀ i, i < ops.size → (i ∈ L ↔ listed.getD i true = false)) → (∀ i ∈ L, i < ops.size) → (∀ i o, i < ops.size → listed.getD i true = true → ops[i]? = some o → ∀ p ∈ bef o, listed.getD p false = true) →
    Holds E f σ a w → idxP tt cs kd N ops labs f' σ' L f σ → wpAnyIn (fen r) 0 P .any ops Q n listed a w := by
  have hdi : ∀ i y, i < ops.size → ops[i]? = some y → (∀ p ∈ bef y, p < i) ∧ ∀ j x, j < i → ops[j]? = some x → (∃ m, j ∈ clo ops.toList m i) ∨ indep kd ops x y (labs.getD j lab0) (labs.getD i lab0) = true := by
    intro i y hi hy
    obtain ⟨g1, g2⟩ := okD_spec (kd := kd) (ops := ops) (labs := labs) ops.toList labs 0 [] hd rfl rfl rfl (fun k hk => absurd hk (Nat.not_lt_zero k)) i y (Nat.zero_le _) (by simpa using hy)
    exact ⟨g1, fun j x hj hx => g2 j x hj (by simpa using hx)⟩
  intro n
  induction n with
  | zero =>
    intro L listed f σ a w hn hsz hpw hL hLlt hdown h hr
    obtain rfl : L = [] := List.eq_nil_of_length_eq_zero hn
    obtain ⟨rfl, rfl⟩ := hr
    refine ⟨?_, hq a w h⟩
    unfold Region.ready
    refine List.filter_eq_nil_iff.2 fun i hi => ?_
    have hi := List.mem_range.1 hi
    have : ¬ listed.getD i true = false := fun e => by have := (hL i hi).2 e; simp at this
    simp [this]
  | succ n ih =>
    intro L listed f σ a w hn hsz hpw hL hLlt hdown h hr
    have hready : ∀ i, i ∈ Region.ready .any ops listed ↔ i < ops.size ∧ listed.getD i true = false ∧ ∀ o, ops[i]? = some o → ∀ p ∈ bef o, listed.getD p false = true := by
      intro i
      unfold Region.ready
      rw [List.mem_filter, List.mem_range]
      constructor
      · rintro ⟨h1, h2⟩
        simp only [Bool.and_eq_true, Bool.not_eq_true'] at h2
        refine ⟨h1, h2.1, fun o ho p hp' => ?_⟩
        have h3 := h2.2
        rw [ho] at h3
        simp only [Option.map_some, Option.getD_some] at h3
        obtain ⟨e, he, rfl⟩ := List.mem_map.1 hp'
        obtain ⟨he1, he2⟩ := List.mem_filter.1 he
        have := (Array.all_eq_true'.1 h3) e (by simpa using he1)
        simpa [he2] using this
      · rintro ⟨h1, h2, h3⟩
        refine ⟨h1, ?_⟩
        simp only [Bool.and_eq_true, Bool.not_eq_true']
        refine ⟨h2, ?_⟩
        have ho : ops[i]? = some ops[i] := Array.getElem?_eq_getElem h1
        rw [ho]
        simp only [Option.map_some, Option.getD_some]
        refine Array.all_eq_true'.2 fun e he => ?_
        cases hb : Region.binds .any e with
        | false => simp
        | true =>
          have := h3 _ ho e.on (List.mem_map.2 ⟨e, List.mem_filter.2 ⟨by simpa using he, hb⟩, rfl⟩)
          simp [this]
    refine ⟨fun hnil => ?_, fun i hi => ?_⟩
    · -- the first one that is left is ready
      exfalso
      cases L with
      | nil => simp at hn
      | cons i L =>
        have hilt := hLlt i (List.mem_cons_self)
        have : i ∈ Region.ready .any ops listed := by
          refine (hready i).2 ⟨hilt, (hL i hilt).1 (List.mem_cons_self), fun o ho p hp' => ?_⟩
          have hpi := (hdi i o hilt ho).1 p hp'
          have hplt : p < ops.size := by omega
          have : p ∉ i :: L := fun hm => by
            rcases List.mem_cons.1 hm with rfl | hm
            · omega
            · have := (List.pairwise_cons.1 hpw).1 p hm; omega
          have h2 : ¬ listed.getD p true = false := fun e => this ((hL p hplt).2 e)
          have h3 : p < listed.size := by omega
          simp only [Array.getD, h3] at h2 ⊢
          simpa using h2
        rw [hnil] at this; cases this
    · obtain ⟨hilt, hil, hbef⟩ := (hready i).1 hi
      have ho : ops[i]? = some ops[i] := Array.getElem?_eq_getElem hilt
      have hmem := (hL i hilt).2 hil
      obtain ⟨L1, L2, rfl⟩ := List.append_of_mem hmem
      -- what must be ahead by way of others is done
      have hclo : ∀ m k, k < ops.size → (∀ o, ops[k]? = some o → ∀ p ∈ bef o, listed.getD p false = true) → ∀ p ∈ clo ops.toList m k, listed.getD p false = true := by
        intro m
        induction m with
        | zero => intro k _ _ p hp'; simp [clo] at hp'
        | succ m ihm =>
          intro k hk hb p hp'
          have hok : ops.toList[k]? = some ops[k] := by simp [hk]
          simp only [clo, hok] at hp'
          rcases List.mem_append.1 hp' with h1 | h1
          · exact hb _ (Array.getElem?_eq_getElem hk) p h1
          · obtain ⟨q, hq1, hq2⟩ := List.mem_flatMap.1 h1
            have hlq := hb _ (Array.getElem?_eq_getElem hk) q hq1
            have hqlt : q < ops.size := by
              have := (hdi k _ hk (Array.getElem?_eq_getElem hk)).1 q hq1; omega
            have hq3 : listed.getD q true = true := by
              have h3 : q < listed.size := by omega
              simp only [Array.getD, h3] at hlq ⊢
              simpa using hlq
            exact ihm q hqlt (fun o ho => hdown q o hqlt hq3 ho) p hq2
      have hind : ∀ j ∈ L1, ∀ x, ops[j]? = some x → indep kd ops x ops[i] (labs.getD j lab0) (labs.getD i lab0) = true := by
        intro j hj x hx
        have hji : j < i := by
          have := (List.pairwise_append.1 hpw).2.2 j hj i (List.mem_cons_self); exact this
        rcases (hdi i _ hilt ho).2 j x hji hx with h1 | h1
        · obtain ⟨m, h1⟩ := h1
          have h2 := hclo m i hilt hbef j h1
          have h3 := (hL j (by omega)).1 (List.mem_append_left _ hj)
          have h4 : j < listed.size := by omega
          simp only [Array.getD, h4] at h2 h3
          simp at h2 h3
          rw [h2] at h3; cases h3
        · exact h1
      have hfr := idx_front hp ho L1 f σ hind hr
      obtain ⟨o1, f1, σ1, ho1, hs, _, hfr⟩ := hfr
      rw [ho] at ho1
      obtain rfl := Option.some.inj ho1
      · 
        have hset : ∀ k, (listed.setIfInBounds i true).getD k true = if k = i then true else listed.getD k true := by
          intro k
          simp only [Array.getD_eq_getD_getElem?, Array.getElem?_setIfInBounds]
          split
          · rename_i e; subst e; simp; split <;> simp
          · rename_i e; rw [if_neg (Ne.symm e)]
        have hset2 : ∀ k, listed.getD k false = true → (listed.setIfInBounds i true).getD k false = true := by
          intro k hk
          simp only [Array.getD_eq_getD_getElem?, Array.getElem?_setIfInBounds] at hk ⊢
          split
          · rename_i e
            subst e
            have : i < listed.size := by omega
            simp [this]
          · exact hk
        have step := stepS_ok ht hcs (r := r) h hs (Q := Q) (next := wpAnyIn (fen r) 0 P .any ops Q n (listed.setIfInBounds i true)) fun a' w' h' => by
          refine ih (L1 ++ L2) _ (by simp at hn ⊢; omega) (by simpa using hsz) ?_ (fun k hk => ?_) (fun k hk => hLlt k ?_) (fun k o hk hkl hko p hp' => ?_) h' hfr
          · have := List.pairwise_append.1 hpw
            exact List.pairwise_append.2 ⟨this.1, (List.pairwise_cons.1 this.2.1).2, fun x hx y hy => this.2.2 x hx y (List.mem_cons_of_mem _ hy)⟩
          · rw [hset]
            have hnd : i ∉ L1 ++ L2 := by
              intro hm
              have := List.pairwise_append.1 hpw
              rcases List.mem_append.1 hm with h1 | h1
              · have := this.2.2 i h1 i (List.mem_cons_self); omega
              · have := (List.pairwise_cons.1 this.2.1).1 i h1; omega
            by_cases hki : k = i
            · subst hki; simp [hnd]
            · rw [if_neg hki, ← hL k hk]
              simp only [List.mem_append, List.mem_cons, hki, false_or]
          · rcases List.mem_append.1 hk with h1 | h1
            · exact List.mem_append_left _ h1
            · exact List.mem_append_right _ (List.mem_cons_of_mem _ h1)
          · rw [hset] at hkl
            by_cases hki : k = i
            · subst hki
              rw [ho] at hko
              obtain rfl := Option.some.inj hko
              exact hset2 p (hbef _ ho p hp')
            · rw [if_neg hki] at hkl
              exact hset2 p (hdown k o hk hkl hko p hp')
        unfold wpOpIn
        rw [ho]
        exact step

omit ht hcs hp in
theorem idx_ops {N : Nat} {ops : Array Oper} {labs : List Lab} : ∀ (l : List Oper) (k : Nat), (∀ j, l[j]? = ops[k + j]?) → ∀ (f : List AV) (σ : St) {f2 : List AV} {σ2 : St}, opsS tt cs N ops.toList l f σ = some (f2, σ2) → (∀ j, (labsF tt cs kd N ops.toList l f σ)[j]? = none ∨ (labsF tt cs kd N ops.toList l f σ).getD j lab0 = labs.getD (k + j) lab0) →
    idxP tt cs kd N ops labs f2 σ2 (List.range' k l.length) f σ := by
  intro l
  induction l with
  | nil =>
    intro k _ f σ f2 σ2 h _
    simp only [opsS, Option.some.injEq, Prod.mk.injEq] at h
    exact h
  | cons o l ih =>
    intro k h f σ f2 σ2 hr hl
    have h0 : ops[k]? = some o := by simpa using (h 0).symm
    simp only [opsS] at hr
    cases hs : stepS tt cs N ops.toList o f σ with
    | none => simp [hs] at hr
    | some p =>
      simp only [hs] at hr
      simp only [labsF, hs] at hl
      refine ⟨o, p.1, p.2, h0, hs, by simpa using hl 0, ?_⟩
      refine ih (k + 1) (fun j => by have := h (j + 1); simpa [Nat.add_assoc, Nat.add_comm 1 j] using this) p.1 p.2 hr fun j => ?_
      have := hl (j + 1)
      simpa [Nat.add_assoc, Nat.add_comm 1 j] using this

/-- A region that draws its order. -/
theorem draw_ok {N : Nat} {ops : Array Oper} (hm : P.follows .mixedOrders = true) {E : Ent} {r : Option Nat} {Q : Exit → Act → World → Prop} {f f' : List AV} {σ σ' : St} {a : Act} {w : World} {id : Nat} (hd : okDraw kd ops (labsF tt cs kd N ops.toList ops.toList f σ) = true)
    (h : Holds E f σ a w) (hr : opsS tt cs N ops.toList ops.toList f σ = some (f', σ')) (hq : ∀ a' w', Holds E f' σ' a' w' → Q .normal a' w') : (Code.region id ops true).wpIn (fen r) 0 P Q a w := by
  refine wpIn_region_any hm ?_
  refine any_ok ht hcs hp hd hq ops.size (List.range' 0 ops.toList.length) (Array.replicate ops.size false) (by simp) (by simp) List.pairwise_lt_range' (fun i hi => by simp [hi]) (fun i hi => by simpa using hi) (fun i o hi hl => by simp [hi] at hl) ?_ (idx_ops ops.toList 0 (fun j => by simp) f σ hr fun j => .inr (by simp))
  obtain ⟨R, φ, hT, hl, hf, hmk⟩ := h
  have hk : Keep (fun _ _ => False) w { w with drawn := w.drawn + 1 } := Keep.drew _ w
  have hcalm : Calm R w { w with drawn := w.drawn + 1 } := hk.calm fun _ _ h => h.elim
  have ht' : Turn R φ σ w R φ σ { w with drawn := w.drawn + 1 } := ⟨fun _ h => h, fun _ h => .inl h, Ext.refl _, ⟨fun l B e => (hT.sim.blk l B e).kept hk (fun _ h => h) (fun _ _ h => h.elim) (fun _ _ _ h => h.elim) (Ext.refl _) (fun h => h), hT.sim.sep, hT.sim.ro, hT.sim.old.keep hk.size (hk.calm fun _ _ h => h.elim), hT.sim.dom⟩, fun _ _ h => .inl h, hk.mono fun _ _ h => h.elim⟩
  exact ⟨R, φ, hT.trans ht', hl, fun t u hu => ht'.vr hT.sim (hf t u hu), hmk.keep hT.sim ht'.keep⟩
end
end
end Go.Proofs.Ythdeehkmlaejfaa.E
/- The engine, part 18b: regions that draw their order, part by part: an operation that stands between all others (a call whose rounds are told) parts a region. -/
namespace Go.Proofs.Ythdeehkmlaejfaa.E
open Go
set_option linter.unusedSimpArgs false
set_option linter.unusedVariables false

/-- A call that is no contract's. -/
def isCut (kd : Kinds) (op : Op) : Bool :=
  match op with
  | .call { callee := .value (.func g), .. } => match kindOf kd g with
    | none => true
    | some _ => false
  | .call { callee := .value _, .. } => true
  | _ => false
/-- The first m operations may be done in any order that is left open. -/
def okPre (kd : Kinds) (ops : Array Oper) (labs : List Lab) (m : Nat) : Bool := okD kd ops ops.toList labs (ops.toList.take m) labs 0 []
def tabC : List Oper → List (List Nat) → List (List Nat)
  | [], T => T
  | y :: l, T => normL (cloE T y) fun c => normL (T ++ [c]) fun T => tabC l T
def befOk : List Oper → Nat → Bool
  | [], _ => true
  | o :: l, i => ((bef o).all fun p => Nat.blt p i) && befOk l (i + 1)
/-- All that stands ahead of the operation y is done ahead of it, and it is done ahead of all that stand behind it. -/
def cutOk (ops : Array Oper) (y : Nat) : Bool := befOk ops.toList 0 && normL (tabC ops.toList []) fun T => (List.range ops.size).all fun u => match Nat.blt u y with
  | true => true
  | false => (List.range (match Nat.blt y u with | true => y + 1 | false => y)).all fun j => (T.getD u []).any (Nat.beq j)

theorem befOk_spec : ∀ (l : List Oper) (i : Nat), befOk l i = true → ∀ k o, l[k]? = some o → ∀ p ∈ bef o, p < i + k
  | [], _, _, k, o, h => by simp at h
  | x :: l, i, h, k, o, ho => by
    simp only [befOk, Bool.and_eq_true] at h
    cases k with
    | zero =>
      simp at ho; subst ho
      intro p hp
      simpa [Nat.blt_eq] using List.all_eq_true.1 h.1 p hp
    | succ k =>
      intro p hp
      have := befOk_spec l (i + 1) h.2 k o (by simpa using ho) p hp
      omega
theorem tabC_spec {ops : List Oper} : ∀ (l : List Oper) (i : Nat) (T : List (List Nat)), l = ops.drop i → T.length = i → (∀ k o, ops[k]? = some o → ∀ p ∈ bef o, p < k) → (∀ k, k < i → ∀ j ∈ T.getD k [], ∃ m, j ∈ clo ops m k) → ∀ k, k < ops.length → ∀ j ∈ (tabC l T).getD k [], ∃ m, j ∈ clo ops m k := by
  intro l
  induction l with
  | nil =>
    intro i T hl hT _ hinv k hk
    have h2 : (ops.drop i).length = 0 := by rw [← hl]; rfl
    simp at h2
    exact hinv k (by omega)
  | cons y l ih =>
    intro i T hl hT hb hinv
    have hi : i < ops.length := by
      rcases Nat.lt_or_ge i ops.length with g | g
      · exact g
      · rw [List.drop_eq_nil_of_le g] at hl; cases hl
    rw [List.drop_eq_getElem_cons hi] at hl
    obtain ⟨e1, e2⟩ := List.cons.inj hl
    have hyi : ops[i]? = some y := by rw [List.getElem?_eq_getElem hi, e1]
    have hbl := hb i y hyi
    have hc : ∀ j ∈ cloE T y, ∃ m, j ∈ clo ops m i := fun j hj => by
      obtain ⟨p, hp, hj⟩ := cloE_mem hj
      rcases hj with rfl | hj
      · exact ⟨1, by simp only [clo, hyi]; exact List.mem_append_left _ hp⟩
      · obtain ⟨m, hm⟩ := hinv p (hbl p hp) j hj
        exact ⟨m + 1, by simp only [clo, hyi]; exact List.mem_append_right _ (List.mem_flatMap.2 ⟨p, hp, hm⟩)⟩
    simp only [tabC, normL_eq]
    refine ih (i + 1) (T ++ [cloE T y]) e2 (by simp [hT]) hb fun k hk j hj => ?_
    rw [List.getD_eq_getElem?_getD, List.getElem?_append] at hj
    split at hj
    · rename_i hkT
      exact hinv k (by omega) j (by rw [List.getD_eq_getElem?_getD]; exact hj)
    · rename_i hkT
      have : k = i := by omega
      subst this
      rw [hT, Nat.sub_self] at hj
      exact hc j hj
theorem cutOk_spec {ops : Array Oper} {y : Nat} (h : cutOk ops y = true) : (∀ i o, ops[i]? = some o → ∀ p ∈ bef o, p < i) ∧ ∀ u, y ≤ u → u < ops.size → ∀ j, j ≤ y → j < u → ∃ m, j ∈ clo ops.toList m u := by
  unfold cutOk at h
  simp only [normL_eq, Bool.and_eq_true] at h
  obtain ⟨h1, h2⟩ := h
  have hb : ∀ k o, ops.toList[k]? = some o → ∀ p ∈ bef o, p < k := fun k o ho p hp => by
    have := befOk_spec ops.toList 0 h1 k o ho p hp; omega
  refine ⟨fun i o ho => hb i o (by simpa using ho), fun u hu hul j hj hju => ?_⟩
  have h3 := List.all_eq_true.1 h2 u (List.mem_range.2 hul)
  have hn : Nat.blt u y = false := by
    rw [Bool.eq_false_iff]; intro e; rw [Nat.blt_eq] at e; omega
  simp only [hn] at h3
  have h4 := List.all_eq_true.1 h3 j (List.mem_range.2 (by
    split
    · omega
    · rename_i hyu
      have : ¬ y < u := fun e => by rw [← Nat.blt_eq] at e; rw [e] at hyu; cases hyu
      omega))
  obtain ⟨z, hz, he⟩ := List.any_eq_true.1 h4
  obtain rfl := Nat.eq_of_beq_eq_true he
  exact tabC_spec ops.toList 0 [] rfl rfl hb (fun k hk => absurd hk (Nat.not_lt_zero k)) u (by simpa using hul) j hz

theorem okP_spec {kd : Kinds} {ops : Array Oper} {labs : List Lab} {M : Nat} : ∀ (l : List Oper) (ls : List Lab) (i : Nat) (T : List (List Nat)), okD kd ops ops.toList labs l ls i T = true → l = (ops.toList.take M).drop i → ls = labs.drop i → T.length = i → (∀ k, k < i → ∀ j ∈ T.getD k [], ∃ m, j ∈ clo ops.toList m k) →
    ∀ k y, i ≤ k → k < M → ops.toList[k]? = some y → (∀ p ∈ bef y, p < k) ∧ ∀ j x, j < k → ops.toList[j]? = some x → (∃ m, j ∈ clo ops.toList m k) ∨ indep kd ops x y (labs.getD j lab0) (labs.getD k lab0) = true := by
  intro l
  induction l with
  | nil =>
    intro ls i T _ hl _ _ _ k y hk hkM hy
    have h1 := (List.getElem?_eq_some_iff.1 hy).1
    have h2 : ((ops.toList.take M).drop i).length = 0 := by rw [← hl]; rfl
    simp at h2
    simp at h1
    omega
  | cons y l ih =>
    intro ls i T h hl hls hT hinv
    cases ls with
    | nil => simp [okD] at h
    | cons ly ls =>
      simp only [okD, normL_eq, Bool.and_eq_true] at h
      obtain ⟨h1, h2, h3⟩ := h
      have hi' : i < (ops.toList.take M).length := by
        rcases Nat.lt_or_ge i (ops.toList.take M).length with g | g
        · exact g
        · rw [List.drop_eq_nil_of_le g] at hl; cases hl
      have hd := List.drop_eq_getElem_cons hi'
      rw [hd] at hl
      obtain ⟨e1, e2⟩ := List.cons.inj hl
      have hli : i < labs.length := by
        rcases Nat.lt_or_ge i labs.length with g | g
        · exact g
        · rw [List.drop_eq_nil_of_le g] at hls; cases hls
      rw [List.drop_eq_getElem_cons hli] at hls
      obtain ⟨f1, f2⟩ := List.cons.inj hls
      have hi : i < ops.toList.length := by simp at hi' ⊢; omega
      have hyi : ops.toList[i]? = some y := by rw [List.getElem?_eq_getElem hi, e1]; simp
      have hbl : ∀ p ∈ bef y, p < i := fun p hp => by simpa [Nat.blt_eq] using List.all_eq_true.1 h1 p hp
      have hc : ∀ j ∈ cloE T y, ∃ m, j ∈ clo ops.toList m i := fun j hj => by
        obtain ⟨p, hp, hj⟩ := cloE_mem hj
        rcases hj with rfl | hj
        · exact ⟨1, by simp only [clo, hyi]; exact List.mem_append_left _ hp⟩
        · obtain ⟨m, hm⟩ := hinv p (hbl p hp) j hj
          exact ⟨m + 1, by simp only [clo, hyi]; exact List.mem_append_right _ (List.mem_flatMap.2 ⟨p, hp, hm⟩)⟩
      have rest := ih ls (i + 1) (T ++ [cloE T y]) h3 e2 f2 (by simp [hT]) fun k hk j hj => by
        rw [List.getD_eq_getElem?_getD, List.getElem?_append] at hj
        split at hj
        · rename_i hkT
          exact hinv k (by omega) j (by rw [List.getD_eq_getElem?_getD]; exact hj)
        · rename_i hkT
          have : k = i := by omega
          subst this
          rw [hT, Nat.sub_self] at hj
          exact hc j hj
      intro k y' hk hkM hy'
      rcases Nat.lt_or_ge i k with g | g
      · exact rest k y' g hkM hy'
      · have : k = i := by omega
        subst this
        rw [hyi] at hy'
        obtain rfl := Option.some.inj hy'
        refine ⟨hbl, fun j x hj hx => ?_⟩
        have hly : labs.getD k lab0 = ly := by rw [List.getD_eq_getElem?_getD, List.getElem?_eq_getElem hli, Option.getD_some, f1]
        rw [hly]
        rcases chkD_spec k ops.toList labs 0 h2 j x hj hx with h | h
        · rw [Nat.zero_add] at h; exact .inl (hc j h)
        · exact .inr h

section
variable {P : Program} {tt : List TE} (ht : TTok P tt) {cs : Ctrs} (hcs : CtrsOk P cs) {kd : Kinds} (hp : KindsOk cs kd)
omit ht hcs hp in
theorem ready_iff {ops : Array Oper} {listed : Array Bool} : ∀ i, i ∈ Region.ready .any ops listed ↔ i < ops.size ∧ listed.getD i true = false ∧ ∀ o, ops[i]? = some o → ∀ p ∈ bef o, listed.getD p false = true := by
  intro i
  unfold Region.ready
  rw [List.mem_filter, List.mem_range]
  constructor
  · rintro ⟨h1, h2⟩
    simp only [Bool.and_eq_true, Bool.not_eq_true'] at h2
    refine ⟨h1, h2.1, fun o ho p hp' => ?_⟩
    have h3 := h2.2
    rw [ho] at h3
    simp only [Option.map_some, Option.getD_some] at h3
    obtain ⟨e, he, rfl⟩ := List.mem_map.1 hp'
    obtain ⟨he1, he2⟩ := List.mem_filter.1 he
    have := (Array.all_eq_true'.1 h3) e (by simpa using he1)
    simpa [he2] using this
  · rintro ⟨h1, h2, h3⟩
    refine ⟨h1, ?_⟩
    simp only [Bool.and_eq_true, Bool.not_eq_true']
    refine ⟨h2, ?_⟩
    have ho : ops[i]? = some ops[i] := Array.getElem?_eq_getElem h1
    rw [ho]
    simp only [Option.map_some, Option.getD_some]
    refine Array.all_eq_true'.2 fun e he => ?_
    cases hb : Region.binds .any e with
    | false => simp
    | true =>
      have := h3 _ ho e.on (List.mem_map.2 ⟨e, List.mem_filter.2 ⟨by simpa using he, hb⟩, rfl⟩)
      simp [this]
omit ht hcs hp in
theorem getD_tf {listed : Array Bool} {i : Nat} (h : i < listed.size) : listed.getD i true = listed.getD i false := by simp [Array.getD, h]
omit ht hcs hp in
/-- What must be ahead by way of others is done. -/
theorem clo_listed {ops : Array Oper} {listed : Array Bool} (hsz : listed.size = ops.size) (hbef : ∀ i o, ops[i]? = some o → ∀ p ∈ bef o, p < i) (hdown : ∀ i o, i < ops.size → listed.getD i true = true → ops[i]? = some o → ∀ p ∈ bef o, listed.getD p false = true) :
    ∀ m k, k < ops.size → (∀ o, ops[k]? = some o → ∀ p ∈ bef o, listed.getD p false = true) → ∀ p ∈ clo ops.toList m k, listed.getD p false = true := by
  intro m
  induction m with
  | zero => intro k _ _ p hp'; simp [clo] at hp'
  | succ m ihm =>
    intro k hk hb p hp'
    have hok : ops.toList[k]? = some ops[k] := by simp [hk]
    simp only [clo, hok] at hp'
    rcases List.mem_append.1 hp' with h1 | h1
    · exact hb _ (Array.getElem?_eq_getElem hk) p h1
    · obtain ⟨q, hq1, hq2⟩ := List.mem_flatMap.1 h1
      have hlq := hb _ (Array.getElem?_eq_getElem hk) q hq1
      have hqlt : q < ops.size := by
        have := hbef k _ (Array.getElem?_eq_getElem hk) q hq1; omega
      have hq3 : listed.getD q true = true := by rw [getD_tf (by omega)]; exact hlq
      exact ihm q hqlt (fun o ho => hdown q o hqlt hq3 ho) p hq2
include ht hcs hp
theorem any_part {N : Nat} {ops : Array Oper} {labs : List Lab} {lo hi : Nat} (hhi : hi ≤ ops.size)
    (hdi : ∀ i y, lo ≤ i → i < hi → ops[i]? = some y → ∀ j x, lo ≤ j → j < i → ops[j]? = some x → (∃ m, j ∈ clo ops.toList m i) ∨ indep kd ops x y (labs.getD j lab0) (labs.getD i lab0) = true)
    (hbef : ∀ i o, ops[i]? = some o → ∀ p ∈ bef o, p < i) (hcut : ∀ u, hi ≤ u → u < ops.size → ∀ j, lo ≤ j → j < hi → ∃ m, j ∈ clo ops.toList m u)
    {E : Ent} {r : Option Nat} {Q : Exit → Act → World → Prop} {f' : List AV} {σ' : St} {M : Nat}
    (hq : ∀ a' w' listed', listed'.size = ops.size → (∀ i, i < ops.size → (listed'.getD i true = false ↔ hi ≤ i)) → Holds E f' σ' a' w' → wpAnyIn (fen r) 0 P .any ops Q M listed' a' w') :
    ∀ (n : Nat) (L : List Nat) (listed : Array Bool) {f : List AV} {σ : St} {a : Act} {w : World}, L.length = n → listed.size = ops.size → L.Pairwise (· < ·) → (∀ i, i < ops.size → (listed.getD i true = false ↔ (i ∈ L ∨ hi ≤ i))) → (∀ i ∈ L, lo ≤ i ∧ i < hi) →
    (∀ i o, i < ops.size → listed.getD i true = true → ops[i]? = some o → ∀ p ∈ bef o, listed.getD p false = true) → Holds E f σ a w → idxP tt cs kd N ops labs f' σ' L f σ → wpAnyIn (fen r) 0 P .any ops Q (n + M) listed a w := by
  intro n
  induction n with
  | zero =>
    intro L listed f σ a w hn hsz hpw hL hLlt hdown h hr
    obtain rfl : L = [] := List.eq_nil_of_length_eq_zero hn
    obtain ⟨rfl, rfl⟩ := hr
    rw [Nat.zero_add]
    exact hq a w listed hsz (fun i hi' => by rw [hL i hi']; simp) h
  | succ n ih =>
    intro L listed f σ a w hn hsz hpw hL hLlt hdown h hr
    rw [show n + 1 + M = (n + M) + 1 by omega]
    have hhead : ∃ i0 L0, L = i0 :: L0 := by
      cases L with
      | nil => simp at hn
      | cons i L => exact ⟨i, L, rfl⟩
    refine ⟨fun hnil => ?_, fun i hi' => ?_⟩
    · -- the first one that is left is ready
      exfalso
      obtain ⟨i, L0, rfl⟩ := hhead
      have hilt := hLlt i (List.mem_cons_self)
      have : i ∈ Region.ready .any ops listed := by
        refine (ready_iff i).2 ⟨by omega, (hL i (by omega)).2 (.inl (List.mem_cons_self)), fun o ho p hp' => ?_⟩
        have hpi := hbef i o ho p hp'
        have : p ∉ i :: L0 := fun hm => by
          rcases List.mem_cons.1 hm with rfl | hm
          · omega
          · have := (List.pairwise_cons.1 hpw).1 p hm; omega
        have h2 : ¬ listed.getD p true = false := fun e => by
          rcases (hL p (by omega)).1 e with h3 | h3
          · exact this h3
          · omega
        rw [← getD_tf (by omega)]
        simpa using h2
      rw [hnil] at this; cases this
    · obtain ⟨hilt, hil, hb1⟩ := (ready_iff i).1 hi'
      have ho : ops[i]? = some ops[i] := Array.getElem?_eq_getElem hilt
      have hclo := clo_listed hsz hbef hdown
      have hmem : i ∈ L := by
        rcases (hL i hilt).1 hil with h1 | h1
        · exact h1
        · exfalso
          obtain ⟨i0, L0, rfl⟩ := hhead
          obtain ⟨g1, g2⟩ := hLlt i0 (List.mem_cons_self)
          obtain ⟨m, hm⟩ := hcut i h1 hilt i0 g1 g2
          have h2 := hclo m i hilt hb1 i0 hm
          have h3 := (hL i0 (by omega)).2 (.inl (List.mem_cons_self))
          rw [getD_tf (by omega), h2] at h3; cases h3
      obtain ⟨L1, L2, rfl⟩ := List.append_of_mem hmem
      have hind : ∀ j ∈ L1, ∀ x, ops[j]? = some x → indep kd ops x ops[i] (labs.getD j lab0) (labs.getD i lab0) = true := by
        intro j hj x hx
        have hji : j < i := (List.pairwise_append.1 hpw).2.2 j hj i (List.mem_cons_self)
        have hjr := hLlt j (List.mem_append_left _ hj)
        have hir := hLlt i hmem
        rcases hdi i _ hir.1 hir.2 ho j x hjr.1 hji hx with h1 | h1
        · obtain ⟨m, h1⟩ := h1
          have h2 := hclo m i hilt hb1 j h1
          have h3 := (hL j (by omega)).2 (.inl (List.mem_append_left _ hj))
          rw [getD_tf (by omega), h2] at h3; cases h3
        · exact h1
      have hfr := idx_front hp ho L1 f σ hind hr
      obtain ⟨o1, f1, σ1, ho1, hs, _, hfr⟩ := hfr
      rw [ho] at ho1
      obtain rfl := Option.some.inj ho1
      have hset : ∀ k, (listed.setIfInBounds i true).getD k true = if k = i then true else listed.getD k true := by
        intro k
        simp only [Array.getD_eq_getD_getElem?, Array.getElem?_setIfInBounds]
        split
        · rename_i e; subst e; simp; split <;> simp
        · rename_i e; rw [if_neg (Ne.symm e)]
      have hset2 : ∀ k, listed.getD k false = true → (listed.setIfInBounds i true).getD k false = true := by
        intro k hk
        simp only [Array.getD_eq_getD_getElem?, Array.getElem?_setIfInBounds] at hk ⊢
        split
        · rename_i e
          subst e
          have : i < listed.size := by omega
          simp [this]
        · exact hk
      have step := stepS_ok ht hcs (r := r) h hs (Q := Q) (next := wpAnyIn (fen r) 0 P .any ops Q (n + M) (listed.setIfInBounds i true)) fun a' w' h' => by
        refine ih (L1 ++ L2) _ (by simp at hn ⊢; omega) (by simpa using hsz) ?_ (fun k hk => ?_) (fun k hk => hLlt k ?_) (fun k o hk hkl hko p hp' => ?_) h' hfr
        · have := List.pairwise_append.1 hpw
          exact List.pairwise_append.2 ⟨this.1, (List.pairwise_cons.1 this.2.1).2, fun x hx y hy => this.2.2 x hx y (List.mem_cons_of_mem _ hy)⟩
        · rw [hset]
          have hnd : i ∉ L1 ++ L2 := by
            intro hm
            have := List.pairwise_append.1 hpw
            rcases List.mem_append.1 hm with h1 | h1
            · have := this.2.2 i h1 i (List.mem_cons_self); omega
            · have := (List.pairwise_cons.1 this.2.1).1 i h1; omega
          have hir := hLlt i hmem
          by_cases hki : k = i
          · subst hki
            rw [if_pos rfl]
            constructor
            · intro e; cases e
            · rintro (e | e)
              · exact absurd e hnd
              · omega
          · rw [if_neg hki, hL k hk]
            simp only [List.mem_append, List.mem_cons, hki, false_or]
        · rcases List.mem_append.1 hk with h1 | h1
          · exact List.mem_append_left _ h1
          · exact List.mem_append_right _ (List.mem_cons_of_mem _ h1)
        · rw [hset] at hkl
          by_cases hki : k = i
          · subst hki
            rw [ho] at hko
            obtain rfl := Option.some.inj hko
            exact hset2 p (hb1 _ ho p hp')
          · rw [if_neg hki] at hkl
            exact hset2 p (hdown k o hk hkl hko p hp')
      unfold wpOpIn
      rw [ho]
      exact step
omit ht hcs hp in
theorem idx_ops' {N : Nat} {ops : Array Oper} {labs : List Lab} : ∀ (l : List Oper) (k : Nat), (∀ j, j < l.length → l[j]? = ops[k + j]?) → ∀ (f : List AV) (σ : St) {f2 : List AV} {σ2 : St}, opsS tt cs N ops.toList l f σ = some (f2, σ2) → (∀ j, (labsF tt cs kd N ops.toList l f σ)[j]? = none ∨ (labsF tt cs kd N ops.toList l f σ).getD j lab0 = labs.getD (k + j) lab0) →
    idxP tt cs kd N ops labs f2 σ2 (List.range' k l.length) f σ := by
  intro l
  induction l with
  | nil =>
    intro k _ f σ f2 σ2 h _
    simp only [opsS, Option.some.injEq, Prod.mk.injEq] at h
    exact h
  | cons o l ih =>
    intro k h f σ f2 σ2 hr hl
    have h0 : ops[k]? = some o := by simpa using (h 0 (Nat.succ_pos _)).symm
    simp only [opsS] at hr
    cases hs : stepS tt cs N ops.toList o f σ with
    | none => simp [hs] at hr
    | some p =>
      simp only [hs] at hr
      simp only [labsF, hs] at hl
      refine ⟨o, p.1, p.2, h0, hs, by simpa using hl 0, ?_⟩
      refine ih (k + 1) (fun j hj => by have := h (j + 1) (Nat.succ_lt_succ hj); simpa [Nat.add_assoc, Nat.add_comm 1 j] using this) p.1 p.2 hr fun j => ?_
      have := hl (j + 1)
      simpa [Nat.add_assoc, Nat.add_comm 1 j] using this
end
end Go.Proofs.Ythdeehkmlaejfaa.E
