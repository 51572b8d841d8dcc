/- The engine, part 17: regions whose order is the text's, and calls. -/
import Derived.Test.YtaneamfnjhiigaaDoorETurn
import Derived.Lib.SliceRun
namespace Go.Proofs.YtaneamfnjhiigaaDoor.E
open Go
set_option linter.unusedSimpArgs false
set_option linter.unusedVariables false
noncomputable section

def put1 (f : List AV) (d : Option Nat) (u : AV) : List AV := match d with | some d => f.set d u | none => f

/-- The value of an operation, if it is to be done. -/
def doV (tt : List TE) (cs : Ctrs) (o : Oper) (f : List AV) (σ : St) : Option (AV × St) :=
  match o.op with
  | .pick c a b => match ev f c with
    | .v (.bool x) => cond x (some (ev f a, σ)) (some (ev f b, σ))
    | _ => none
  | .call { callee := .value g, args := args, .. } => match ev f g with
    | .f (.func g) us ks => match ctr cs g with
      | some G => match G (us ++ args.toList.map (ev f) ++ ks) σ with
        | some (c, u, σ') => cond c (some (u, σ')) none
        | none => none
      | none => none
    | _ => none
  | op => match aOp tt op f σ with
    | some (c, u, σ') => cond c (some (u, σ')) none
    | none => none

/-- What a guard hangs on: a boolean, or nothing where it was passed over itself. -/
def gval (ops : List Oper) (f : List AV) (j : Nat) : Option (Option Bool) :=
  match ops[j]? with
  | some o => match o.dst with
    | some d => match f.getD d .dead with
      | .v (.bool b) => some (some b)
      | .v (.tuple _) => some none
      | _ => none
    | none => none
  | none => none

def cnd {α : Type} (want b : Bool) (x y : α) : α := match want with | true => cond b x y | false => cond b y x
theorem cnd_eq {α : Type} (want b : Bool) (x y : α) : cnd want b x y = cond (b == want) x y := by cases b <;> cases want <;> rfl

def valF (tt : List TE) (cs : Ctrs) (ops : List Oper) (o : Oper) (f : List AV) (σ : St) : Option (AV × St) :=
  match o.guard with
  | none => doV tt cs o f σ
  | some (j, want) => match gval ops f j with
    | some (some b) => cnd want b (doV tt cs o f σ) (some (.v undef, σ))
    | some none => some (.v undef, σ)
    | none => none

def stepF (tt : List TE) (cs : Ctrs) (ops : List Oper) (o : Oper) (f : List AV) (σ : St) : Option (List AV × St) :=
  match valF tt cs ops o f σ with
  | some (u, σ') => some (put1 f o.dst u, σ')
  | none => none

def opsF (tt : List TE) (cs : Ctrs) (ops : List Oper) : List Oper → List AV → St → Option (List AV × St)
  | [], f, σ => some (f, σ)
  | o :: l, f, σ => match stepF tt cs ops o f σ with
    | some (f', σ') => opsF tt cs ops l f' σ'
    | none => none

/-- A list, written out (for the kernel's sake). -/
def normL {α β : Type} : List β → (List β → α) → α
  | [], K => K []
  | x :: l, K => normL l fun l' => K (x :: l')
theorem normL_eq {α β : Type} : ∀ (l : List β) (K : List β → α), normL l K = K l
  | [], _ => rfl
  | _ :: l, K => normL_eq l _
def setK {α β : Type} : List β → Nat → β → (List β → α) → α
  | [], _, _, K => K []
  | _ :: l, 0, u, K => K (u :: l)
  | x :: l, d + 1, u, K => setK l d u fun l' => K (x :: l')
theorem setK_eq {α β : Type} : ∀ (l : List β) (d : Nat) (u : β) (K : List β → α), setK l d u K = K (l.set d u)
  | [], _, _, _ => rfl
  | _ :: _, 0, _, _ => rfl
  | _ :: l, d + 1, u, K => setK_eq l d u _
/-- A value, written out. -/
def forceK {α : Type} (u : AV) (K : AV → α) : α :=
  match u with
  | .v x => K (.v x)
  | .p l o => K (.p l o)
  | .q l sz i j => K (.q l sz i j)
  | .s l sz o n => K (.s l sz o n)
  | .i sz n get => K (.i sz n get)
  | .ip cs j => K (.ip cs j)
  | .a cs => normL cs fun cs => K (.a cs)
  | .t cs => normL cs fun cs => K (.t cs)
  | .f fn us cs => normL us fun us => normL cs fun cs => K (.f fn us cs)
  | .y l => K (.y l)
  | .z => K .z
  | .dead => K .dead
theorem forceK_eq {α : Type} (u : AV) (K : AV → α) : forceK u K = K u := by
  cases u <;> simp only [forceK, normL_eq]
def putK {α : Type} (f : List AV) (d : Option Nat) (u : AV) (σ : St) (K : List AV → St → α) : α :=
  match d with
  | some d => forceK u fun u => setK f d u fun f' => normL σ fun σ' => K f' σ'
  | none => normL σ fun σ' => K f σ'
theorem putK_eq {α : Type} (f : List AV) (d : Option Nat) (u : AV) (σ : St) (K : List AV → St → α) : putK f d u σ K = K (put1 f d u) σ := by
  cases d with
  | none => simp only [putK, put1, normL_eq]
  | some d => simp only [putK, put1, setK_eq, normL_eq, forceK_eq]

/-- A slice is asked whether it is nil: of how many elements it is (one with none may be nil, and may not). -/
def nilQ (tt : List TE) (op : Op) (f : List AV) : Option Nat :=
  match op with
  | .binOp .eql t x (.const (.slice none 0 0)) _ => match look tt t with
    | some e => match e.td with
      | .slice _ => match ev f x with
        | .s _ _ _ n => some n
        | .i _ n _ => some n
        | _ => none
      | _ => none
    | none => none
  | _ => none
/-- The same, with what goes on behind it; Y: the rounds that may be called. -/
def doK (tt : List TE) (cs : Ctrs) (ks : Runs) (Y : YE) (o : Oper) (f : List AV) (σ : St) (K : List AV → St → Option Prop) : Option Prop :=
  match o.op with
  | .pick c a b => match ev f c with
    | .v (.bool x) => cond x (putK f o.dst (ev f a) σ K) (putK f o.dst (ev f b) σ K)
    | _ => none
  | .call { callee := .value g, args := args, .. } => match ev f g with
    | .f (.func g) us ls => match ctr cs g with
      | some G => match G (us ++ args.toList.map (ev f) ++ ls) σ with
        | some (c, u, σ') => cond c (putK f o.dst u σ' K) none
        | none => none
      | none => match run ks g with
        | some T => normL (us ++ args.toList.map (ev f) ++ ls) fun as => T as σ Y fun u σ' => putK f o.dst u σ' K
        | none => none
    | .y l => match Y l with
      | some T => normL (args.toList.map (ev f)) fun as => T as σ fun u σ' => putK f o.dst u σ' K
      | none => none
    | _ => none
  | op => match aOp tt op f σ with
    | some (c, u, σ') => cond c (putK f o.dst u σ' K) none
    | none => match nilQ tt op f with
      | some n => some (tr (putK f o.dst (.v (.bool false)) σ K) ∧ (n = 0 → tr (putK f o.dst (.v (.bool true)) σ K)))
      | none => none
def stepK (tt : List TE) (cs : Ctrs) (ks : Runs) (Y : YE) (ops : List Oper) (o : Oper) (f : List AV) (σ : St) (K : List AV → St → Option Prop) : Option Prop :=
  match o.guard with
  | none => doK tt cs ks Y o f σ K
  | some (j, want) => match gval ops f j with
    | some (some b) => cnd want b (doK tt cs ks Y o f σ K) (putK f o.dst (.v undef) σ K)
    | some none => putK f o.dst (.v undef) σ K
    | none => none
def opsK (tt : List TE) (cs : Ctrs) (ks : Runs) (Y : YE) (ops : List Oper) : List Oper → List AV → St → (List AV → St → Option Prop) → Option Prop
  | [], f, σ, K => K f σ
  | o :: l, f, σ, K => stepK tt cs ks Y ops o f σ fun f' σ' => opsK tt cs ks Y ops l f' σ' K

theorem Act.eta (a : Act) : a = ⟨a.tmps, a.defers⟩ := by cases a; rfl

theorem gval_ok {R : Nat → Prop} {φ : Phi} {f : List AV} {tmps : Array Value} {w : World} (hlen : f.length = tmps.size) (hf : ∀ (t : Nat) (u : AV), f[t]? = some u → VR R φ w u (tmps.getD t undef)) {ops : Array Oper} {j : Nat} {b : Option Bool} (hg : gval ops.toList f j = some b) : yielded ops tmps j = b := by
  unfold gval at hg
  split at hg
  · rename_i o ho
    split at hg
    · rename_i d hd
      have ho' : ops[j]? = some o := by rw [← ho]; simp
      have hp : ∀ x, f.getD d .dead = .v x → tmps[d]? = some x := fun x hb => by
        have hv := hf d (.v x) (by
          rw [List.getD_eq_getElem?_getD] at hb
          cases hk : f[d]? with
          | none => rw [hk] at hb; cases hb
          | some u => rw [hk] at hb; simp only [Option.getD_some] at hb; rw [hb])
        have hlt : d < tmps.size := by
          rw [← hlen]
          rcases Nat.lt_or_ge d f.length with g | g
          · exact g
          · rw [List.getD_eq_getElem?_getD, List.getElem?_eq_none g] at hb; cases hb
        have := hv.val
        rw [Array.getD_eq_getD_getElem?, Array.getElem?_eq_getElem hlt] at this
        simp only [Option.getD_some] at this
        rw [Array.getElem?_eq_getElem hlt, this]
      split at hg
      · rename_i b' hb
        obtain rfl := Option.some.inj hg
        unfold yielded
        simp only [ho', Option.bind_some, hd, hp _ hb]
      · rename_i xs hb
        obtain rfl := Option.some.inj hg
        unfold yielded
        simp only [ho', Option.bind_some, hd, hp _ hb]
      · cases hg
    · cases hg
  · cases hg

/-- An operation that is no defer, by what it answers. -/
theorem owp_value {P : Program} {r : Option Nat} {o : Oper} {a : Act} {w w' : World} {nx : Next} {v : Value} (hnd : ∀ c, o.op ≠ .defer c) (h : (execOp a.eval o).run P w = .ok nx w') (hy : Yields nx v) {next : Act → World → Prop} {Q : Exit → Act → World → Prop}
    (hn : next (a.put o.dst v) w') : o.wpIn (fen r) 0 P a w next Q := by
  refine ⟨fun f _ => fen_fn r f, ?_⟩
  rw [fen_round, Oper.semAt_eq _ _ _ hnd, h]
  rcases hy with rfl | ⟨rfl, rfl⟩ <;> exact hn
theorem owp_enter {P : Program} {r : Option Nat} {o : Oper} {a : Act} {w : World} {g : Nat} {args : Array Value} (hnd : ∀ c, o.op ≠ .defer c) (h : (execOp a.eval o).run P w = .ok (.enter g args) w) {next : Act → World → Prop} {Q : Exit → Act → World → Prop}
    (hn : Calls P g args w fun e w' => ∃ v, e = .returned v ∧ next (a.put o.dst v) w') : o.wpIn (fen r) 0 P a w next Q := by
  refine ⟨fun f _ => fen_fn r f, ?_⟩
  rw [fen_round, Oper.semAt_eq _ _ _ hnd, h]
  refine ⟨fun h => fen_depth r h, callsIn_fen.2 (hn.mono ?_)⟩
  rintro e w' ⟨v, rfl, hn⟩
  exact hn
theorem owp_round {P : Program} {r : Option Nat} {o : Oper} {a : Act} {w : World} {b : Nat} {args : Array Value} (hnd : ∀ c, o.op ≠ .defer c) (h : (execOp a.eval o).run P w = (Instr.yield b args).run P w) {next : Act → World → Prop} {Q : Exit → Act → World → Prop}
    (hn : YieldAt Fence.wide 0 P b args w fun e w' => ∃ v, e = .returned v ∧ next (a.put o.dst v) w') : o.wpIn (fen r) 0 P a w next Q := by
  obtain ⟨fn, tmps, assign, body, hy, hr⟩ := hn
  refine ⟨fun f _ => fen_fn r f, ?_⟩
  rw [fen_round, Oper.semAt_eq _ _ _ hnd, h, hy]
  refine ⟨fun h => fen_depth r h, ?_⟩
  have hr' : RoundIn Fence.wide (0 - 1) P b fn tmps assign body w (fun | .returned v, w'' => next (a.put o.dst v) w'' | .panicked chain, w'' => Q (.panic chain) a w'' | .outgrown, _ => LetsOut Q) := hr.mono fun e w' => by
    rintro ⟨v, rfl, hn⟩; exact hn
  cases r <;> exact hr'

theorem ev_frame {R : Nat → Prop} {φ : Phi} {σ : St} {f : List AV} {a : Act} {w : World} (hs : Sim R φ σ w) (hl : f.length = a.tmps.size) (hf : ∀ (t : Nat) (u : AV), f[t]? = some u → VR R φ w u (a.tmps.getD t undef)) (x : Operand) : VR R φ w (ev f x) (a.eval x) := by
  have := ev_ok (localRel hs hl hf) a.defers x
  rwa [← Act.eta] at this
theorem evs_frame {R : Nat → Prop} {φ : Phi} {σ : St} {f : List AV} {a : Act} {w : World} (hs : Sim R φ σ w) (hl : f.length = a.tmps.size) (hf : ∀ (t : Nat) (u : AV), f[t]? = some u → VR R φ w u (a.tmps.getD t undef)) (xs : List Operand) : VRs R φ w (xs.map (ev f)) (xs.map a.eval) := by
  have := map_rel (localRel hs hl hf) a.defers xs
  rwa [← Act.eta] at this
theorem VRs.append {R : Nat → Prop} {φ : Phi} {W : World} {us us' : List AV} {vs vs' : List Value} (h : VRs R φ W us vs) (h' : VRs R φ W us' vs') : VRs R φ W (us ++ us') (vs ++ vs') := by
  refine ⟨by simp [h.1, h'.1], fun k u x hu hx => ?_⟩
  rw [List.getElem?_append] at hu hx
  rw [← h.1] at hx
  split at hu
  · rename_i hk; rw [if_pos hk] at hx; exact h.2 k u x hu hx
  · rename_i hk; rw [if_neg hk] at hx; exact h'.2 _ u x hu hx

section
variable {P : Program} {tt : List TE} (ht : TTok P tt) {cs : Ctrs} (hcs : CtrsOk P cs)
include ht hcs

omit ht hcs in
/-- A function that is called. -/
theorem call_run {R : Nat → Prop} {φ : Phi} {σ : St} {f : List AV} {a : Act} {w : World} (hs : Sim R φ σ w) (hl : f.length = a.tmps.size) (hf : ∀ (t : Nat) (u : AV), f[t]? = some u → VR R φ w u (a.tmps.getD t undef)) {o : Oper} {g : Operand} {args : Array Operand} {ats : Array TypeId}
    (hop : o.op = .call { callee := .value g, args := args, argTypes := ats }) {g' : Nat} {us ks : List AV} (hg : ev f g = .f (.func g') us ks) (hc : Callable P g') :
    ∃ vals : List Value, (execOp a.eval o).run P w = .ok (.enter g' vals.toArray) w ∧ VRs R φ w (us ++ args.toList.map (ev f) ++ ks) vals := by
  obtain ⟨fn, hfn, hnm, hbody⟩ := hc
  have hv := ev_frame hs hl hf g
  rw [hg] at hv
  obtain ⟨uv, kv, hval, h1, h2⟩ : ∃ uv kv : List Value, a.eval g = .func (.func g') uv.toArray kv.toArray ∧ VRs R φ w us uv ∧ VRs R φ w ks kv := by
    generalize a.eval g = v at hv
    cases hv with
    | imm hi => cases hi
    | f h1 h2 h3 h4 => exact ⟨_, _, rfl, ⟨h1, h2⟩, ⟨h3, h4⟩⟩
  have h3 := evs_frame hs hl hf args.toList
  refine ⟨uv ++ args.toList.map a.eval ++ kv, ?_, (h1.append h3).append h2⟩
  obtain ⟨dst, op, type, pos, after, guard⟩ := o
  simp only at hop
  subst hop
  simp only [execOp, resolve, hval, Deferred.ofValue]
  simp only [Sem.run_bind, Sem.run_pure, Result.andThen_ok, invoke]
  have hargs : args.map a.eval = (args.toList.map a.eval).toArray := by rw [← Array.toList_map]
  rw [hargs]
  unfold callFunc
  simp only [Sem.run_bind, run_program, Result.andThen_ok, hfn, hnm, hbody, Bool.false_eq_true, if_false, Sem.run_pure]
  simp

/-- What an operation comes to. -/
theorem doV_ok {E : Ent} {r : Option Nat} {o : Oper} {f : List AV} {σ : St} {a : Act} {w : World} (h : Holds E f σ a w) {u : AV} {σ' : St} (hr : doV tt cs o f σ = some (u, σ')) {next : Act → World → Prop} {Q : Exit → Act → World → Prop}
    (hn : ∀ a' w', Holds E (put1 f o.dst u) σ' a' w' → next a' w') : o.wpIn (fen r) 0 P a w next Q := by
  obtain ⟨R, φ, hT, hl, hf, hm⟩ := h
  have hs := hT.sim
  unfold doV at hr
  split at hr
  · rename_i c x y hop
    split at hr
    · rename_i b hb
      have hc := ev_frame hs hl hf c
      rw [hb] at hc
      have hc := hc.val
      have e : (execOp a.eval o).run P w = .ok (.value (if b then a.eval x else a.eval y)) w := by
        obtain ⟨dst, op, type, pos, after, guard⟩ := o
        simp only at hop
        subst hop
        simp only [execOp, hc]
        simp [asBool]
      refine owp_value (fun c h => by rw [hop] at h; cases h) e (.inl rfl) (hn _ _ ?_)
      cases b
      · simp only [cond, Option.some.injEq, Prod.mk.injEq] at hr
        obtain ⟨rfl, rfl⟩ := hr
        exact Holds.step hT hl hf hm (Turn.refl hs) (ev_frame hs hl hf y) _
      · simp only [cond, Option.some.injEq, Prod.mk.injEq] at hr
        obtain ⟨rfl, rfl⟩ := hr
        exact Holds.step hT hl hf hm (Turn.refl hs) (ev_frame hs hl hf x) _
    · cases hr
  · rename_i g args ats hop
    split at hr
    case h_2 => cases hr
    rename_i g' us ks hg
    split at hr
    case h_2 => cases hr
    rename_i G hG
    split at hr
    case h_2 => cases hr
    rename_i c0 u0 σ0 hr0
    have hr : G (us ++ args.toList.map (ev f) ++ ks) σ = some (true, u, σ') := by
      cases c0 with
      | false => cases hr
      | true =>
        simp only [cond, Option.some.injEq, Prod.mk.injEq] at hr
        obtain ⟨rfl, rfl⟩ := hr
        exact hr0
    obtain ⟨hcal, hok⟩ := ctr_ok hcs hG
    obtain ⟨vals, e, hv⟩ := call_run hs hl hf hop hg hcal
    refine owp_enter (fun c h => by rw [hop] at h; cases h) e ((hok hr hs hv).mono ?_)
    rintro e' w' ⟨v, R1, φ', rfl, ht', hv'⟩
    exact ⟨v, rfl, hn _ _ (Holds.step hT hl hf hm ht' hv' _)⟩
  · rename_i op hnp hnc
    split at hr
    case h_2 => cases hr
    rename_i c u1 σ1 ha
    cases c with
    | false => cases hr
    | true =>
      simp only [cond, Option.some.injEq, Prod.mk.injEq] at hr
      obtain ⟨rfl, rfl⟩ := hr
      obtain ⟨nx, v, W', φ', h1, h2, h3, h4, h5⟩ := aOp_ok ht (localRel hs hl hf) a.defers ha rfl
      rw [← Act.eta] at h1
      exact owp_value (fun c h => by rw [h] at ha; simp [aOp] at ha) h1 h2 (hn _ _ (Holds.step hT hl hf hm (turn_of_rel (fun _ h => h) (fun _ h => .inl h) h3 h4) h5 _))

/-- A step, where the operation is the one that stands there. -/
theorem stepF_ok {E : Ent} {r : Option Nat} {ops : Array Oper} {o : Oper} {f : List AV} {σ : St} {a : Act} {w : World} (h : Holds E f σ a w) {f' : List AV} {σ' : St} (hs : stepF tt cs ops.toList o f σ = some (f', σ')) {next : Act → World → Prop} {Q : Exit → Act → World → Prop}
    (hn : ∀ a' w', Holds E f' σ' a' w' → next a' w') : if Region.wanted o (yielded ops a.tmps) then o.wpIn (fen r) 0 P a w next Q else (∀ f, o.about P w a.eval = some f → (fen r).fn f) ∧ next (a.put o.dst undef) w := by
  unfold stepF at hs
  split at hs
  case h_2 => cases hs
  rename_i u σ1 hv
  simp only [Option.some.injEq, Prod.mk.injEq] at hs
  obtain ⟨rfl, rfl⟩ := hs
  have h0 := h
  obtain ⟨R, φ, hT, hl, hf, hm⟩ := h
  unfold valF at hv
  cases hgd : o.guard with
  | none =>
    simp only [hgd] at hv
    rw [if_pos (by simp [Region.wanted, hgd])]
    exact doV_ok ht hcs h0 hv hn
  | some jw =>
    obtain ⟨j, want⟩ := jw
    simp only [hgd] at hv
    cases hgv : gval ops.toList f j with
    | none => simp [hgv] at hv
    | some b =>
      have hy := gval_ok hl hf hgv
      cases b with
      | none =>
        simp only [hgv, Option.some.injEq, Prod.mk.injEq] at hv
        obtain ⟨rfl, rfl⟩ := hv
        rw [if_neg (by simp [Region.wanted, hgd, hy])]
        exact ⟨fun f _ => fen_fn r f, hn _ _ (Holds.step hT hl hf hm (Turn.refl hT.sim) (.imm (.v _)) _)⟩
      | some b =>
      simp only [hgv, cnd_eq] at hv
      cases hbw : (b == want) with
      | true =>
        simp only [hbw, cond] at hv
        rw [if_pos (by simp only [Region.wanted, hgd, hy]; simpa using hbw)]
        exact doV_ok ht hcs h0 hv hn
      | false =>
        simp only [hbw, cond, Option.some.injEq, Prod.mk.injEq] at hv
        obtain ⟨rfl, rfl⟩ := hv
        rw [if_neg (by simp only [Region.wanted, hgd, hy]; simpa using hbw)]
        exact ⟨fun f _ => fen_fn r f, hn _ _ (Holds.step hT hl hf hm (Turn.refl hT.sim) (.imm (.v _)) _)⟩

variable {ks : Runs} (hks : RunsOk P ks)
include hks

omit hcs hks in
theorem nilQ_ok {R : Nat → Prop} {φ : Phi} {σ : St} {f : List AV} {a : Act} {w : World} (hs : Sim R φ σ w) (hl : f.length = a.tmps.size) (hf : ∀ (t : Nat) (u : AV), f[t]? = some u → VR R φ w u (a.tmps.getD t undef)) {o : Oper} {n : Nat} (hn : nilQ tt o.op f = some n) :
    ∃ b : Bool, (execOp a.eval o).run P w = .ok (.value (.bool b)) w ∧ (b = true → n = 0) := by
  unfold nilQ at hn
  split at hn
  case h_2 => cases hn
  rename_i t x t' hop
  split at hn
  case h_2 => cases hn
  rename_i e he
  split at hn
  case h_2 => cases hn
  rename_i el htd
  have hlk := (look_ok ht he).1
  rw [htd] at hlk
  have hlk : P.underlying t = some (.slice el) := hlk
  have hv := ev_frame hs hl hf x
  have key : ∃ ad n' c, a.eval x = .slice ad n' c ∧ (ad.isNone = true → n = 0) := by
    split at hn
    · rename_i l sz o' n0 hx
      obtain rfl := Option.some.inj hn
      rw [hx] at hv
      generalize a.eval x = v at hv
      cases hv with
      | imm hi => cases hi
      | nil h => exact ⟨_, _, _, rfl, fun _ => rfl⟩
      | z h => exact ⟨_, _, _, rfl, fun _ => rfl⟩
      | s h hn hr => exact ⟨_, _, _, rfl, fun h => by cases h⟩
    · rename_i sz n0 get hx
      obtain rfl := Option.some.inj hn
      rw [hx] at hv
      generalize a.eval x = v at hv
      cases hv with
      | imm hi =>
        cases hi with
        | nil => exact ⟨_, _, _, rfl, fun _ => rfl⟩
        | i => exact ⟨_, _, _, rfl, fun h => by cases h⟩
    · cases hn
  obtain ⟨ad, n', c, hval, hz⟩ := key
  refine ⟨ad.isNone, ?_, hz⟩
  obtain ⟨dst, op, type, pos, after, guard⟩ := o
  simp only at hop
  subst hop
  have e2 : a.eval (.const (.slice none 0 0)) = .slice none 0 0 := rfl
  have e3 : (binOp .eql t (.slice ad n' c) (.slice none 0 0)).run P w = .ok (.bool ad.isNone) w := Lib.run_eql_slice_nil w t el ad n' c 0 0 hlk
  simp only [execOp, hval, e2]
  have e4 : (eqGuard .eql t x (.const (.slice none 0 0)) (.slice ad n' c) (.slice none 0 0)) = pure () := rfl
  simp [e4, Sem.run_bind, e3]

theorem doK_ok {E : Ent} {Y : YE} (hY : YOk P E.R E.φ E.σ E.W Y) {r : Option Nat} {o : Oper} {f : List AV} {σ : St} {a : Act} {w : World} (h : Holds E f σ a w) {K : List AV → St → Option Prop} (hr : tr (doK tt cs ks Y o f σ K)) {next : Act → World → Prop} {Q : Exit → Act → World → Prop}
    (hn : ∀ a' w' f' σ', Holds E f' σ' a' w' → tr (K f' σ') → next a' w') : o.wpIn (fen r) 0 P a w next Q := by
  have byV : ∀ {u : AV} {σ' : St}, doV tt cs o f σ = some (u, σ') → tr (K (put1 f o.dst u) σ') → o.wpIn (fen r) 0 P a w next Q := fun hv hk => doV_ok ht hcs h hv fun a' w' h' => hn a' w' _ _ h' hk
  obtain ⟨R, φ, hT, hl, hf, hm⟩ := h
  have hs := hT.sim
  unfold doK at hr
  split at hr
  · rename_i c x y hop
    split at hr
    · rename_i b hb
      cases b
      · simp only [cond, putK_eq] at hr
        exact byV (by unfold doV; simp only [hop, hb, cond]) hr
      · simp only [cond, putK_eq] at hr
        exact byV (by unfold doV; simp only [hop, hb, cond]) hr
    · exact hr.elim
  · rename_i g args ats hop
    split at hr
    · rename_i g' us ls hg
      split at hr
      · rename_i G hG
        split at hr
        case h_2 => exact hr.elim
        rename_i c0 u0 σ0 hr0
        cases c0 with
        | false => exact hr.elim
        | true =>
          simp only [cond, putK_eq] at hr
          exact byV (by unfold doV; simp only [hop, hg, hG, hr0, cond]) hr
      · split at hr
        case h_2 => exact hr.elim
        rename_i T hT'
        rw [normL_eq] at hr
        obtain ⟨hcal, hok⟩ := run_ok hks hT'
        obtain ⟨vals, e, hv⟩ := call_run hs hl hf hop hg hcal
        refine owp_enter (fun c h => by rw [hop] at h; cases h) e ((hok hr hs (hY.later hT) hv).mono ?_)
        rintro e' w' ⟨u, σ', v, R1, φ', rfl, ht', hv', hk⟩
        rw [putK_eq] at hk
        exact ⟨v, rfl, hn _ _ _ _ (Holds.step hT hl hf hm ht' hv' _) hk⟩
    · rename_i l hg
      split at hr
      case h_2 => exact hr.elim
      rename_i T hT'
      rw [normL_eq] at hr
      obtain ⟨b, hb, hy⟩ := hY l T hT'
      have hv := ev_frame hs hl hf g
      rw [hg] at hv
      have hval : a.eval g = .func (.yield b) #[] #[] := by
        generalize a.eval g = v at hv
        cases hv with
        | imm hi => cases hi
        | y h1 =>
          rw [hT.ext _ _ hb] at h1
          obtain ⟨rfl, _⟩ := Prod.mk.inj (Option.some.inj (Option.some.inj h1))
          rfl
      have h3 := evs_frame hs hl hf args.toList
      have e : (execOp a.eval o).run P w = (Instr.yield b (args.toList.map a.eval).toArray).run P w := by
        obtain ⟨dst, op, type, pos, after, guard⟩ := o
        simp only at hop
        subst hop
        simp only [execOp, resolve, hval, Deferred.ofValue]
        simp only [Sem.run_bind, Sem.run_pure, Result.andThen_ok, invoke]
        have hargs : args.map a.eval = (args.toList.map a.eval).toArray := by rw [← Array.toList_map]
        rw [hargs]
        simp
      have hyy := hy hT h3 hr
      refine owp_round (fun c h => by rw [hop] at h; cases h) e ?_
      obtain ⟨fn, tm, as, bd, y1, y2⟩ := hyy
      refine ⟨fn, tm, as, bd, y1, y2.mono ?_⟩
      rintro e' w' ⟨u, σ', v, R1, φ', rfl, ht', hv', hk⟩
      rw [putK_eq] at hk
      exact ⟨v, rfl, hn _ _ _ _ (Holds.step hT hl hf hm ht' hv' _) hk⟩
    · exact hr.elim
  · rename_i op hnp hnc
    split at hr
    case h_2 =>
      split at hr
      case h_2 => exact hr.elim
      rename_i n hq
      obtain ⟨b, e, hz⟩ := nilQ_ok (P := P) ht hs hl hf hq
      obtain ⟨h1, h2⟩ := hr
      refine owp_value (fun c h => by rw [h] at hq; simp [nilQ] at hq) e (.inl rfl) ?_
      cases b with
      | false =>
        rw [putK_eq] at h1
        exact hn _ _ _ _ (Holds.step hT hl hf hm (Turn.refl hs) (.imm (.v _)) _) h1
      | true =>
        have h2 := h2 (hz rfl)
        rw [putK_eq] at h2
        exact hn _ _ _ _ (Holds.step hT hl hf hm (Turn.refl hs) (.imm (.v _)) _) h2
    rename_i c u1 σ1 ha
    cases c with
    | false => exact hr.elim
    | true =>
      simp only [cond, putK_eq] at hr
      refine byV ?_ hr
      unfold doV
      split
      · rename_i h; exact absurd h (hnp _ _ _)
      · rename_i h; exact absurd h (hnc _ _ _)
      · simp only [ha, cond]

theorem stepK_ok {E : Ent} {Y : YE} (hY : YOk P E.R E.φ E.σ E.W Y) {r : Option Nat} {ops : Array Oper} {o : Oper} {f : List AV} {σ : St} {a : Act} {w : World} (h : Holds E f σ a w) {K : List AV → St → Option Prop} (hr : tr (stepK tt cs ks Y ops.toList o f σ K)) {next : Act → World → Prop} {Q : Exit → Act → World → Prop}
    (hn : ∀ a' w' f' σ', Holds E f' σ' a' w' → tr (K f' σ') → next a' w') : if Region.wanted o (yielded ops a.tmps) then o.wpIn (fen r) 0 P a w next Q else (∀ f, o.about P w a.eval = some f → (fen r).fn f) ∧ next (a.put o.dst undef) w := by
  have h0 := h
  obtain ⟨R, φ, hT, hl, hf, hm⟩ := h
  have skip : tr (putK f o.dst (.v undef) σ K) → (∀ f, o.about P w a.eval = some f → (fen r).fn f) ∧ next (a.put o.dst undef) w := fun hk => by
    rw [putK_eq] at hk
    exact ⟨fun f _ => fen_fn r f, hn _ _ _ _ (Holds.step hT hl hf hm (Turn.refl hT.sim) (.imm (.v _)) _) hk⟩
  unfold stepK at hr
  cases hgd : o.guard with
  | none =>
    simp only [hgd] at hr
    rw [if_pos (by simp [Region.wanted, hgd])]
    exact doK_ok ht hcs hks hY h0 hr hn
  | some jw =>
    obtain ⟨j, want⟩ := jw
    simp only [hgd] at hr
    cases hgv : gval ops.toList f j with
    | none => simp only [hgv] at hr; exact hr.elim
    | some b =>
      have hy := gval_ok hl hf hgv
      cases b with
      | none =>
        simp only [hgv] at hr
        rw [if_neg (by simp [Region.wanted, hgd, hy])]
        exact skip hr
      | some b =>
      simp only [hgv, cnd_eq] at hr
      cases hbw : (b == want) with
      | true =>
        simp only [hbw, cond] at hr
        rw [if_pos (by simp only [Region.wanted, hgd, hy]; simpa using hbw)]
        exact doK_ok ht hcs hks hY h0 hr hn
      | false =>
        simp only [hbw, cond] at hr
        rw [if_neg (by simp only [Region.wanted, hgd, hy]; simpa using hbw)]
        exact skip hr

theorem opsK_ok {E : Ent} {Y : YE} (hY : YOk P E.R E.φ E.σ E.W Y) {r : Option Nat} {ops : Array Oper} {Q : Exit → Act → World → Prop} {K : List AV → St → Option Prop} (hq : ∀ a' w' f' σ', Holds E f' σ' a' w' → tr (K f' σ') → Q .normal a' w') : ∀ (l : List Oper) {f : List AV} {σ : St} {a : Act} {w : World}, Holds E f σ a w → tr (opsK tt cs ks Y ops.toList l f σ K) →
    wpListIn (fen r) 0 P ops Q l a w := by
  intro l
  induction l with
  | nil => intro f σ a w h hr; exact hq a w f σ h hr
  | cons o l ih =>
    intro f σ a w h hr
    simp only [opsK] at hr
    exact stepK_ok ht hcs hks hY h hr fun a' w' f' σ' h' hk => ih h' hk
end
end
end Go.Proofs.YtaneamfnjhiigaaDoor.E
