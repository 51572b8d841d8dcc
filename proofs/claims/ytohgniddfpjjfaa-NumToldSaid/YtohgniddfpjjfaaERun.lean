/- The engine, part 16: regions whose order is the text's, and calls by contracts. -/
import Derived.Test.YtohgniddfpjjfaaEOpM
namespace Go.Proofs.Ytohgniddfpjjfaa.E
open Go
set_option linter.unusedSimpArgs false
set_option linter.unusedVariables false

/-- What is known of a frame and a world, since a beginning (the world W0, the cells F0 that belonged to roots then, the blocks R0 that nobody writes). -/
def Holds (F0 : Nat → Nat → Prop) (W0 : World) (R0 : Nat → Prop) (f : List AV) (σ : St) (a : Act) (w : World) : Prop :=
  ∃ R φ, (∀ b, R0 b → R b) ∧ (∀ b, R b → R0 b ∨ W0.heap.size ≤ b ∨ ∃ k, F0 b k) ∧ Rel F0 W0 R φ σ f a.tmps w ∧ a.defers = []

/-- What a call does: a condition, its value, and the roots behind it. -/
abbrev Ctr := List AV → St → Option (Bool × AV × St)
abbrev Ctrs := List (Nat × Ctr)
def ctr (cs : Ctrs) (g : Nat) : Option Ctr := match cs.find? fun p => Nat.beq p.1 g with | some p => some p.2 | none => none

/-- A contract holds. -/
structure CtrOk (P : Program) (g : Nat) (G : Ctr) : Prop where
  callable : ∃ fn, P.funcs[g]? = some fn ∧ (fn.name == "runtime.NumGoroutine") = false ∧ fn.body.isNone = false
  ok : ∀ {args : List AV} {σ : St} {u : AV} {σ' : St}, G args σ = some (true, u, σ') → ∀ {F0 : Nat → Nat → Prop} {W0 : World} {R : Nat → Prop} {φ : Phi} {f : List AV} {tmps : Array Value} {W : World}, Rel F0 W0 R φ σ f tmps W →
    ∀ {vals : List Value}, args.length = vals.length → (∀ (k : Nat) (u : AV) (x : Value), args[k]? = some u → vals[k]? = some x → VR R φ W u x) →
    Calls P g vals.toArray W fun e W' => ∃ v R' φ', e = .returned v ∧ (∀ b, R b → R' b) ∧ (∀ b, R' b → R b ∨ W.heap.size ≤ b ∨ ∃ k, F0 b k) ∧ Rel F0 W0 R' φ' σ' f tmps W' ∧ VR R' φ' W' u v

def CtrsOk (P : Program) (cs : Ctrs) : Prop := ∀ p ∈ cs, CtrOk P p.1 p.2
theorem ctr_ok {P : Program} {cs : Ctrs} (h : CtrsOk P cs) {g : Nat} {G : Ctr} (hg : ctr cs g = some G) : CtrOk P g G := by
  unfold ctr at hg
  split at hg
  · rename_i p hp
    obtain rfl := Option.some.inj hg
    have h1 := List.find?_some hp
    have h1 := Nat.eq_of_beq_eq_true h1
    rw [← h1]
    exact h p (List.mem_of_find?_eq_some hp)
  · cases hg

def put1 (f : List AV) (d : Option Nat) (u : AV) : List AV := match d with | some d => f.set d u | none => f

/-- The value of an operation, if it is to be done. -/
def doV (tt : List TE) (cs : Ctrs) (o : Oper) (f : List AV) (σ : St) : Option (AV × St) :=
  match o.op with
  | .pick c a b => match ev f c with
    | .v (.bool x) => cond x (some (ev f a, σ)) (some (ev f b, σ))
    | _ => none
  | .call { callee := .value g, args := args, .. } => match ev f g with
    | .f (.func g) us ks => match ctr cs g with
      | some G => match G (us ++ args.toList.map (ev f) ++ ks) σ with
        | some (c, u, σ') => cond c (some (u, σ')) none
        | none => none
      | none => none
    | _ => none
  | op => match aOp tt op f σ with
    | some (c, u, σ') => cond c (some (u, σ')) none
    | none => none

/-- What a guard hangs on: a boolean, or nothing where it was passed over itself. -/
def gval (ops : List Oper) (f : List AV) (j : Nat) : Option (Option Bool) :=
  match ops[j]? with
  | some o => match o.dst with
    | some d => match f.getD d .dead with
      | .v (.bool b) => some (some b)
      | .v (.tuple _) => some none
      | _ => none
    | none => none
  | none => none

def cnd {α : Type} (want b : Bool) (x y : α) : α := match want with | true => cond b x y | false => cond b y x
theorem cnd_eq {α : Type} (want b : Bool) (x y : α) : cnd want b x y = cond (b == want) x y := by cases b <;> cases want <;> rfl

def valF (tt : List TE) (cs : Ctrs) (ops : List Oper) (o : Oper) (f : List AV) (σ : St) : Option (AV × St) :=
  match o.guard with
  | none => doV tt cs o f σ
  | some (j, want) => match gval ops f j with
    | some (some b) => cnd want b (doV tt cs o f σ) (some (.v undef, σ))
    | some none => some (.v undef, σ)
    | none => none

def stepF (tt : List TE) (cs : Ctrs) (ops : List Oper) (o : Oper) (f : List AV) (σ : St) : Option (List AV × St) :=
  match valF tt cs ops o f σ with
  | some (u, σ') => some (put1 f o.dst u, σ')
  | none => none

def opsF (tt : List TE) (cs : Ctrs) (ops : List Oper) : List Oper → List AV → St → Option (List AV × St)
  | [], f, σ => some (f, σ)
  | o :: l, f, σ => match stepF tt cs ops o f σ with
    | some (f', σ') => opsF tt cs ops l f' σ'
    | none => none

/-- A list, written out (for the kernel's sake). -/
def normL {α β : Type} : List β → (List β → α) → α
  | [], K => K []
  | x :: l, K => normL l fun l' => K (x :: l')
theorem normL_eq {α β : Type} : ∀ (l : List β) (K : List β → α), normL l K = K l
  | [], _ => rfl
  | _ :: l, K => normL_eq l _
def setK {α β : Type} : List β → Nat → β → (List β → α) → α
  | [], _, _, K => K []
  | _ :: l, 0, u, K => K (u :: l)
  | x :: l, d + 1, u, K => setK l d u fun l' => K (x :: l')
theorem setK_eq {α β : Type} : ∀ (l : List β) (d : Nat) (u : β) (K : List β → α), setK l d u K = K (l.set d u)
  | [], _, _, _ => rfl
  | _ :: _, 0, _, _ => rfl
  | _ :: l, d + 1, u, K => setK_eq l d u _
/-- A value, written out. -/
def forceK {α : Type} (u : AV) (K : AV → α) : α :=
  match u with
  | .v x => K (.v x)
  | .p l o => K (.p l o)
  | .q l sz i j => K (.q l sz i j)
  | .s l sz o n => K (.s l sz o n)
  | .i sz n get => K (.i sz n get)
  | .ip cs j => K (.ip cs j)
  | .a cs => normL cs fun cs => K (.a cs)
  | .t cs => normL cs fun cs => K (.t cs)
  | .f fn us cs => normL us fun us => normL cs fun cs => K (.f fn us cs)
  | .dead => K .dead
theorem forceK_eq {α : Type} (u : AV) (K : AV → α) : forceK u K = K u := by
  cases u <;> simp only [forceK, normL_eq]
def putK {α : Type} (f : List AV) (d : Option Nat) (u : AV) (σ : St) (K : List AV → St → α) : α :=
  match d with
  | some d => forceK u fun u => setK f d u fun f' => normL σ fun σ' => K f' σ'
  | none => normL σ fun σ' => K f σ'
theorem putK_eq {α : Type} (f : List AV) (d : Option Nat) (u : AV) (σ : St) (K : List AV → St → α) : putK f d u σ K = K (put1 f d u) σ := by
  cases d with
  | none => simp only [putK, put1, normL_eq]
  | some d => simp only [putK, put1, setK_eq, normL_eq, forceK_eq]

/-- The same, with what goes on behind it. -/
def doK {α : Type} (tt : List TE) (cs : Ctrs) (o : Oper) (f : List AV) (σ : St) (K : List AV → St → Option α) : Option α :=
  match o.op with
  | .pick c a b => match ev f c with
    | .v (.bool x) => cond x (putK f o.dst (ev f a) σ K) (putK f o.dst (ev f b) σ K)
    | _ => none
  | .call { callee := .value g, args := args, .. } => match ev f g with
    | .f (.func g) us ks => match ctr cs g with
      | some G => match G (us ++ args.toList.map (ev f) ++ ks) σ with
        | some (c, u, σ') => cond c (putK f o.dst u σ' K) none
        | none => none
      | none => none
    | _ => none
  | op => match aOp tt op f σ with
    | some (c, u, σ') => cond c (putK f o.dst u σ' K) none
    | none => none
def stepK {α : Type} (tt : List TE) (cs : Ctrs) (ops : List Oper) (o : Oper) (f : List AV) (σ : St) (K : List AV → St → Option α) : Option α :=
  match o.guard with
  | none => doK tt cs o f σ K
  | some (j, want) => match gval ops f j with
    | some (some b) => cnd want b (doK tt cs o f σ K) (putK f o.dst (.v undef) σ K)
    | some none => putK f o.dst (.v undef) σ K
    | none => none
def opsK {α : Type} (tt : List TE) (cs : Ctrs) (ops : List Oper) : List Oper → List AV → St → (List AV → St → Option α) → Option α
  | [], f, σ, K => K f σ
  | o :: l, f, σ, K => stepK tt cs ops o f σ fun f' σ' => opsK tt cs ops l f' σ' K

theorem doK_eq {α : Type} {tt : List TE} {cs : Ctrs} {o : Oper} {f : List AV} {σ : St} (K : List AV → St → Option α) : doK tt cs o f σ K = (doV tt cs o f σ).bind fun p => K (put1 f o.dst p.1) p.2 := by
  unfold doK doV
  split
  · split
    · rename_i x _; cases x <;> exact putK_eq ..
    · rfl
  · split
    · split
      · split
        · rename_i c _ _ _; cases c
          · rfl
          · exact putK_eq ..
        · rfl
      · rfl
    · rfl
  · split
    · rename_i c _ _ _; cases c
      · rfl
      · exact putK_eq ..
    · rfl
theorem stepK_eq {α : Type} {tt : List TE} {cs : Ctrs} {ops : List Oper} {o : Oper} {f : List AV} {σ : St} (K : List AV → St → Option α) : stepK tt cs ops o f σ K = (stepF tt cs ops o f σ).bind fun p => K p.1 p.2 := by
  unfold stepK stepF valF
  split
  · rw [doK_eq]
    cases doV tt cs o f σ with
    | none => rfl
    | some p => rfl
  · split
    · rename_i b _; rw [cnd_eq, cnd_eq]; generalize (b == _) = q; cases q
      · exact putK_eq ..
      · simp only [cond, doK_eq]
        cases doV tt cs o f σ with
        | none => rfl
        | some p => rfl
    · exact putK_eq ..
    · rfl
theorem opsK_eq {α : Type} {tt : List TE} {cs : Ctrs} {ops : List Oper} (K : List AV → St → Option α) : ∀ (l : List Oper) (f : List AV) (σ : St), opsK tt cs ops l f σ K = (opsF tt cs ops l f σ).bind fun p => K p.1 p.2 := by
  intro l
  induction l with
  | nil => intro f σ; rfl
  | cons o l ih =>
    intro f σ
    simp only [opsK, opsF, stepK_eq]
    cases stepF tt cs ops o f σ with
    | none => rfl
    | some p => exact ih p.1 p.2

theorem put_holds {F0 : Nat → Nat → Prop} {W0 : World} {R0 R : Nat → Prop} {φ : Phi} {f : List AV} {σ : St} {a : Act} {w : World} (hR : ∀ b, R0 b → R b) (hR' : ∀ b, R b → R0 b ∨ W0.heap.size ≤ b ∨ ∃ k, F0 b k) (h : Rel F0 W0 R φ σ f a.tmps w) (hd : a.defers = []) {u : AV} {v : Value} (hv : VR R φ w u v) (d : Option Nat) :
    Holds F0 W0 R0 (put1 f d u) σ (a.put d v) w := by
  cases d with
  | none => exact ⟨R, φ, hR, hR', h, hd⟩
  | some d => exact ⟨R, φ, hR, hR', h.put hv d, hd⟩

theorem Act.eta (a : Act) : a = ⟨a.tmps, a.defers⟩ := by cases a; rfl

theorem gval_ok {F0 : Nat → Nat → Prop} {W0 : World} {R : Nat → Prop} {φ : Phi} {σ : St} {f : List AV} {tmps : Array Value} {w : World} (h : Rel F0 W0 R φ σ f tmps w) {ops : Array Oper} {j : Nat} {b : Option Bool} (hg : gval ops.toList f j = some b) : yielded ops tmps j = b := by
  unfold gval at hg
  split at hg
  · rename_i o ho
    split at hg
    · rename_i d hd
      have ho' : ops[j]? = some o := by rw [← ho]; simp
      have hp : ∀ x, f.getD d .dead = .v x → tmps[d]? = some x := fun x hb => by
        have hv := h.fr d (.v x) (by
          rw [List.getD_eq_getElem?_getD] at hb
          cases hk : f[d]? with
          | none => rw [hk] at hb; cases hb
          | some u => rw [hk] at hb; simp only [Option.getD_some] at hb; rw [hb])
        have hlt : d < tmps.size := by
          rw [← h.len]
          rcases Nat.lt_or_ge d f.length with g | g
          · exact g
          · rw [List.getD_eq_getElem?_getD, List.getElem?_eq_none g] at hb; cases hb
        have := hv.val
        rw [Array.getD_eq_getD_getElem?, Array.getElem?_eq_getElem hlt] at this
        simp only [Option.getD_some] at this
        rw [Array.getElem?_eq_getElem hlt, this]
      split at hg
      · rename_i b' hb
        obtain rfl := Option.some.inj hg
        unfold yielded
        simp only [ho', Option.bind_some, hd, hp _ hb]
      · rename_i xs hb
        obtain rfl := Option.some.inj hg
        unfold yielded
        simp only [ho', Option.bind_some, hd, hp _ hb]
      · cases hg
    · cases hg
  · cases hg

section
variable {P : Program} {tt : List TE} (ht : TTok P tt) {cs : Ctrs} (hcs : CtrsOk P cs)
include ht hcs

/-- What an operation comes to. -/
theorem doV_ok {F0 : Nat → Nat → Prop} {W0 : World} {R0 : Nat → Prop} {o : Oper} {f : List AV} {σ : St} {a : Act} {w : World} (h : Holds F0 W0 R0 f σ a w) {u : AV} {σ' : St} (hr : doV tt cs o f σ = some (u, σ')) {next : Act → World → Prop} {Q : Exit → Act → World → Prop}
    (hn : ∀ a' w', Holds F0 W0 R0 (put1 f o.dst u) σ' a' w' → next a' w') : o.wp P a w next Q := by
  obtain ⟨R, φ, hR, hR', hrel, hd⟩ := h
  unfold Oper.wp
  unfold doV at hr
  split at hr
  · rename_i c x y hop
    split at hr
    · rename_i b hb
      have hc := ev_ok hrel a.defers c
      rw [hb, ← Act.eta] at hc
      have hc := hc.val
      have e : (execOp a.eval o).run P w = .ok (.value (if b then a.eval x else a.eval y)) w := by
        obtain ⟨dst, op, type, pos, after, guard⟩ := o
        simp only at hop
        subst hop
        simp only [execOp, hc]
        simp [asBool]
      rw [e]
      show next (a.put o.dst _) w
      cases b
      · simp only [cond, Option.some.injEq, Prod.mk.injEq] at hr
        obtain ⟨rfl, rfl⟩ := hr
        have := ev_ok hrel a.defers y
        rw [← Act.eta] at this
        exact hn _ _ (put_holds hR hR' hrel hd this _)
      · simp only [cond, Option.some.injEq, Prod.mk.injEq] at hr
        obtain ⟨rfl, rfl⟩ := hr
        have := ev_ok hrel a.defers x
        rw [← Act.eta] at this
        exact hn _ _ (put_holds hR hR' hrel hd this _)
    · cases hr
  · rename_i g args ats hop
    split at hr
    case h_2 => cases hr
    rename_i g' us ks hg
    split at hr
    case h_2 => cases hr
    rename_i G hG
    split at hr
    case h_2 => cases hr
    rename_i c0 u0 σ0 hr0
    have hr : G (us ++ args.toList.map (ev f) ++ ks) σ = some (true, u, σ') := by
      cases c0 with
      | false => cases hr
      | true =>
        simp only [cond, Option.some.injEq, Prod.mk.injEq] at hr
        obtain ⟨rfl, rfl⟩ := hr
        exact hr0
    obtain ⟨⟨fn, hfn, hnm, hbody⟩, hok⟩ := ctr_ok hcs hG
    have hv := ev_ok hrel a.defers g
    rw [hg, ← Act.eta] at hv
    obtain ⟨uv, kv, hval, l1, r1, l2, r2⟩ : ∃ uv kv : List Value, a.eval g = .func (.func g') uv.toArray kv.toArray ∧ us.length = uv.length ∧ (∀ (k : Nat) (u : AV) (x : Value), us[k]? = some u → uv[k]? = some x → VR R φ w u x) ∧ ks.length = kv.length ∧ (∀ (k : Nat) (u : AV) (x : Value), ks[k]? = some u → kv[k]? = some x → VR R φ w u x) := by
      generalize a.eval g = v at hv
      cases hv with
      | imm hi => cases hi
      | f h1 h2 h3 h4 => exact ⟨_, _, rfl, h1, h2, h3, h4⟩
    obtain ⟨l3, r3⟩ := map_rel hrel a.defers args.toList
    rw [← Act.eta] at l3 r3
    have e : (execOp a.eval o).run P w = .ok (.enter g' (uv ++ args.toList.map a.eval ++ kv).toArray) w := by
      obtain ⟨dst, op, type, pos, after, guard⟩ := o
      simp only at hop
      subst hop
      simp only [execOp, resolve, hval, Deferred.ofValue]
      simp only [Sem.run_bind, Sem.run_pure, Result.andThen_ok, invoke]
      have hargs : args.map a.eval = (args.toList.map a.eval).toArray := by rw [← Array.toList_map]
      rw [hargs]
      unfold callFunc
      simp only [Sem.run_bind, run_program, Result.andThen_ok, hfn, hnm, hbody, Bool.false_eq_true, if_false, Sem.run_pure]
      simp
    rw [e]
    show Calls P g' _ w _
    refine (hok hr hrel (vals := uv ++ args.toList.map a.eval ++ kv) (by simp only [List.length_append, l1, l2, l3]) (fun k u x hu hx => ?_)).mono ?_
    · rw [List.append_assoc, List.getElem?_append] at hu hx
      rw [← l1] at hx
      split at hu
      · rename_i hk; rw [if_pos hk] at hx; exact r1 k u x hu hx
      · rename_i hk
        rw [if_neg hk] at hx
        rw [List.getElem?_append] at hu hx
        rw [← l3] at hx
        split at hu
        · rename_i hk'; rw [if_pos hk'] at hx; exact r3 _ u x hu hx
        · rename_i hk'; rw [if_neg hk'] at hx; exact r2 _ u x hu hx
    · rintro e' w' ⟨v, R1, φ', rfl, hR1, hR2, hrel', hv'⟩
      refine hn _ _ (put_holds (fun b hb => hR1 b (hR b hb)) (fun b hb => ?_) hrel' hd hv' _)
      rcases hR2 b hb with h | h | h
      · exact hR' b h
      · exact .inr (.inl (Nat.le_trans hrel.keep.size h))
      · exact .inr (.inr h)
  · rename_i op hnp hnc
    split at hr
    case h_2 => cases hr
    rename_i c u1 σ1 ha
    cases c with
    | false => cases hr
    | true =>
      simp only [cond, Option.some.injEq, Prod.mk.injEq] at hr
      obtain ⟨rfl, rfl⟩ := hr
      obtain ⟨nx, v, W', φ', h1, h2, _, h3, h4⟩ := aOp_ok ht hrel a.defers ha rfl
      rw [← Act.eta] at h1
      rw [h1]
      rcases h2 with rfl | ⟨rfl, rfl⟩
      · exact hn _ _ (put_holds hR hR' h3 hd h4 _)
      · exact hn _ _ (put_holds hR hR' h3 hd h4 _)

/-- A step, where the operation is the one that stands there. -/
theorem stepF_ok {F0 : Nat → Nat → Prop} {W0 : World} {R0 : Nat → Prop} {ops : Array Oper} {o : Oper} {f : List AV} {σ : St} {a : Act} {w : World} (h : Holds F0 W0 R0 f σ a w) {f' : List AV} {σ' : St} (hs : stepF tt cs ops.toList o f σ = some (f', σ')) {next : Act → World → Prop} {Q : Exit → Act → World → Prop}
    (hn : ∀ a' w', Holds F0 W0 R0 f' σ' a' w' → next a' w') : if Region.wanted o (yielded ops a.tmps) then o.wp P a w next Q else next (a.put o.dst undef) w := by
  unfold stepF at hs
  split at hs
  case h_2 => cases hs
  rename_i u σ1 hv
  simp only [Option.some.injEq, Prod.mk.injEq] at hs
  obtain ⟨rfl, rfl⟩ := hs
  obtain ⟨R, φ, hR, hR', hrel, hd⟩ := h
  have h : Holds F0 W0 R0 f σ a w := ⟨R, φ, hR, hR', hrel, hd⟩
  unfold valF at hv
  cases hgd : o.guard with
  | none =>
    simp only [hgd] at hv
    rw [if_pos (by simp [Region.wanted, hgd])]
    exact doV_ok ht hcs h hv hn
  | some jw =>
    obtain ⟨j, want⟩ := jw
    simp only [hgd] at hv
    cases hgv : gval ops.toList f j with
    | none => simp [hgv] at hv
    | some b =>
      have hy := gval_ok hrel hgv
      cases b with
      | none =>
        simp only [hgv, Option.some.injEq, Prod.mk.injEq] at hv
        obtain ⟨rfl, rfl⟩ := hv
        rw [if_neg (by simp [Region.wanted, hgd, hy])]
        exact hn _ _ (put_holds hR hR' hrel hd (.imm (.v _)) _)
      | some b =>
      simp only [hgv, cnd_eq] at hv
      cases hbw : (b == want) with
      | true =>
        simp only [hbw, cond] at hv
        rw [if_pos (by simp only [Region.wanted, hgd, hy]; simpa using hbw)]
        exact doV_ok ht hcs h hv hn
      | false =>
        simp only [hbw, cond, Option.some.injEq, Prod.mk.injEq] at hv
        obtain ⟨rfl, rfl⟩ := hv
        rw [if_neg (by simp only [Region.wanted, hgd, hy]; simpa using hbw)]
        exact hn _ _ (put_holds hR hR' hrel hd (.imm (.v _)) _)

theorem opsF_ok {F0 : Nat → Nat → Prop} {W0 : World} {R0 : Nat → Prop} {ops : Array Oper} {Q : Exit → Act → World → Prop} : ∀ (l : List Oper) {f : List AV} {σ : St} {a : Act} {w : World}, Holds F0 W0 R0 f σ a w → ∀ {f' : List AV} {σ' : St}, opsF tt cs ops.toList l f σ = some (f', σ') →
    (∀ a' w', Holds F0 W0 R0 f' σ' a' w' → Q .normal a' w') → wpList P ops Q l a w := by
  intro l
  induction l with
  | nil =>
    intro f σ a w h f' σ' hr hq
    simp only [opsF, Option.some.injEq, Prod.mk.injEq] at hr
    obtain ⟨rfl, rfl⟩ := hr
    exact hq a w h
  | cons o l ih =>
    intro f σ a w h f' σ' hr hq
    simp only [opsF] at hr
    cases hs : stepF tt cs ops.toList o f σ with
    | none => simp [hs] at hr
    | some p =>
      obtain ⟨f1, σ1⟩ := p
      simp only [hs] at hr
      have := stepF_ok ht hcs h hs (Q := Q) (next := wpList P ops Q l) fun a' w' h' => ih h' hr hq
      unfold wpList
      split
      · rename_i hw; rw [if_pos hw] at this; exact .inl this
      · rename_i hw; rw [if_neg hw] at this; exact this
end
end Go.Proofs.Ytohgniddfpjjfaa.E
