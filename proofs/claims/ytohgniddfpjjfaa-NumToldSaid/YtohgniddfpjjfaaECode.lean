/- The engine, part 19: code, loops by what is told of them, functions. -/
import Derived.Test.YtohgniddfpjjfaaECov
namespace Go.Proofs.Ytohgniddfpjjfaa.E
open Go
set_option linter.unusedSimpArgs false
set_option linter.unusedVariables false

/-- How code is left. -/
inductive Ex where
  | normal
  | exit (id : Nat)
  | ret
def Ex.to : Ex → Exit
  | .normal => .normal
  | .exit id => .exit id
  | .ret => .ret

/-- What goes on behind. -/
abbrev Cont := Ex → List AV → St → Prop
/-- What is told of a loop: whence it comes to what. -/
abbrev Orc := List AV → St → Cont → Prop
def tr : Option Prop → Prop
  | some p => p
  | none => False

/-- How many loops stand in code, none of them in another one. -/
def loops : Code → Nat
  | .seq a b => loops a + loops b
  | .cond _ a b => loops a + loops b
  | .block _ a => loops a
  | .loop _ => 1
  | _ => 0

structure Cx where
  tt : List TE
  cs : Ctrs
  pc : List Nat

/-- A frame, written out. -/
def normF {α : Type} : List AV → (List AV → α) → α
  | [], K => K []
  | u :: l, K => forceK u fun u => normF l fun l => K (u :: l)
theorem normF_eq {α : Type} : ∀ (l : List AV) (K : List AV → α), normF l K = K l
  | [], _ => rfl
  | u :: l, K => by simp only [normF, forceK_eq]; exact normF_eq l _

/-- Code, and what goes on behind it. -/
def runC (X : Cx) : Code → List Orc → List AV → St → (Ex → List AV → St → Option Prop) → Option Prop
  | .skip, _, f, σ, K => K .normal f σ
  | .region _ ops false, _, f, σ, K => opsK X.tt X.cs ops.toList ops.toList f σ (K .normal)
  | .region _ ops true, _, f, σ, K => match okDraw X.pc ops with
    | true => opsK X.tt X.cs ops.toList ops.toList f σ (K .normal)
    | false => none
  | .seq a b, os, f, σ, K => normL (os.take (loops a)) fun o1 => normL (os.drop (loops a)) fun o2 => runC X a o1 f σ fun e f' σ' => match e with
    | .normal => runC X b o2 f' σ' K
    | e => K e f' σ'
  | .cond c a b, os, f, σ, K => match ev f c with
    | .v (.bool x) => normL (os.take (loops a)) fun o1 => normL (os.drop (loops a)) fun o2 => cond x (runC X a o1 f σ K) (runC X b o2 f σ K)
    | _ => none
  | .block id a, os, f, σ, K => runC X a os f σ fun e f' σ' => match e with
    | .exit j => match Nat.beq j id with
      | true => K .normal f' σ'
      | false => K (.exit j) f' σ'
    | e => K e f' σ'
  | .loop _, os, f, σ, K => match os with
    | [o] => some (o f σ fun e f' σ' => tr (normF f' fun f' => normL σ' fun σ' => K e f' σ'))
    | _ => none
  | .exit id, _, f, σ, K => K (.exit id) f σ
  | .ret, _, f, σ, K => K .ret f σ
  | _, _, _, _, _ => none

/-- What is told of a loop holds. -/
def OrcOk (P : Program) (body : Code) (o : Orc) : Prop :=
  ∀ {f : List AV} {σ : St} {K : Cont}, o f σ K → ∀ {F0 : Nat → Nat → Prop} {W0 : World} {R0 : Nat → Prop} {a : Act} {w : World}, Holds F0 W0 R0 f σ a w →
    (Code.loop body).wp P (fun e' a' w' => ∃ e f' σ', e' = Ex.to e ∧ Holds F0 W0 R0 f' σ' a' w' ∧ K e f' σ') a w

def OrcsOk (P : Program) : Code → List Orc → Prop
  | .seq a b, os => OrcsOk P a (os.take (loops a)) ∧ OrcsOk P b (os.drop (loops a))
  | .cond _ a b, os => OrcsOk P a (os.take (loops a)) ∧ OrcsOk P b (os.drop (loops a))
  | .block _ a, os => OrcsOk P a os
  | .loop body, os => ∀ o, os = [o] → OrcOk P body o
  | _, _ => True

/-- The bodies of the loops that stand in code, none of them in another one. -/
def bodies : Code → List Code
  | .seq a b => bodies a ++ bodies b
  | .cond _ a b => bodies a ++ bodies b
  | .block _ a => bodies a
  | .loop a => [a]
  | _ => []
def OrcL (P : Program) : List Code → List Orc → Prop
  | b :: bs, o :: os => OrcOk P b o ∧ OrcL P bs os
  | _, _ => True
theorem bodies_len : ∀ c : Code, (bodies c).length = loops c := by
  intro c
  induction c <;> simp_all [bodies, loops]
theorem OrcL.append {P : Program} : ∀ (A B : List Code) (os : List Orc), OrcL P (A ++ B) os → OrcL P A (os.take A.length) ∧ OrcL P B (os.drop A.length)
  | [], B, os, h => ⟨by cases os <;> trivial, by simpa using h⟩
  | a :: A, B, [], h => ⟨trivial, by cases B <;> simp [OrcL]⟩
  | a :: A, B, o :: os, h => by
    obtain ⟨h1, h2⟩ := h
    obtain ⟨g1, g2⟩ := OrcL.append A B os h2
    exact ⟨⟨h1, g1⟩, by simpa using g2⟩
theorem orcs_ok {P : Program} : ∀ (c : Code) (os : List Orc), OrcL P (bodies c) os → OrcsOk P c os := by
  intro c
  induction c with
  | seq a b iha ihb =>
    intro os h
    obtain ⟨h1, h2⟩ := h.append
    rw [bodies_len] at h1 h2
    exact ⟨iha _ h1, ihb _ h2⟩
  | cond k a b iha ihb =>
    intro os h
    obtain ⟨h1, h2⟩ := h.append
    rw [bodies_len] at h1 h2
    exact ⟨iha _ h1, ihb _ h2⟩
  | block id a iha => intro os h; exact iha os h
  | loop a _ => intro os h o ho; subst ho; exact h.1
  | _ => intros; trivial

structure CxOk (P : Program) (X : Cx) : Prop where
  tt : TTok P X.tt
  cs : CtrsOk P X.cs
  pc : PureOk X.cs X.pc
  mixed : P.follows .mixedOrders = true

theorem runC_ok {P : Program} {X : Cx} (hX : CxOk P X) {F0 : Nat → Nat → Prop} {W0 : World} {R0 : Nat → Prop} : ∀ (c : Code) (os : List Orc), OrcsOk P c os → ∀ {f : List AV} {σ : St} {K : Ex → List AV → St → Option Prop} {a : Act} {w : World} {Q : Exit → Act → World → Prop}, Holds F0 W0 R0 f σ a w → tr (runC X c os f σ K) →
    (∀ e f' σ' a' w', Holds F0 W0 R0 f' σ' a' w' → tr (K e f' σ') → Q e.to a' w') → c.wp P Q a w := by
  intro c
  induction c with
  | skip => intro os _ f σ K a w Q h hr hq; exact wp_skip (hq .normal f σ a w h hr)
  | region id ops draw =>
    intro os _ f σ K a w Q h hr hq
    cases draw with
    | false =>
      simp only [runC, opsK_eq] at hr
      cases ho : opsF X.tt X.cs ops.toList ops.toList f σ with
      | none => rw [ho] at hr; exact hr.elim
      | some p =>
        obtain ⟨f', σ'⟩ := p
        rw [ho] at hr
        exact wp_region_list (opsF_ok hX.tt hX.cs ops.toList h ho fun a' w' h' => hq .normal f' σ' a' w' h' hr)
    | true =>
      simp only [runC] at hr
      cases hd : okDraw X.pc ops with
      | false => simp [hd, tr] at hr
      | true =>
        simp only [hd, opsK_eq] at hr
        cases ho : opsF X.tt X.cs ops.toList ops.toList f σ with
        | none => rw [ho] at hr; exact hr.elim
        | some p =>
          obtain ⟨f', σ'⟩ := p
          rw [ho] at hr
          exact draw_ok hX.tt hX.cs hX.pc hX.mixed hd h ho fun a' w' h' => hq .normal f' σ' a' w' h' hr
  | seq x y ihx ihy =>
    intro os hos f σ K a w Q h hr hq
    simp only [runC, normL_eq] at hr
    refine wp_seq (ihx _ hos.1 h hr fun e f' σ' a' w' h' hk => ?_)
    cases e with
    | normal => exact ihy _ hos.2 h' hk hq
    | exit id => exact hq (.exit id) f' σ' a' w' h' hk
    | ret => exact hq .ret f' σ' a' w' h' hk
  | cond k x y ihx ihy =>
    intro os hos f σ K a w Q h hr hq
    simp only [runC, normL_eq] at hr
    split at hr
    case h_2 => exact hr.elim
    rename_i b hb
    obtain ⟨R, φ, hR, hR', hrel, hdf⟩ := h
    have hv := ev_ok hrel a.defers k
    rw [hb, ← Act.eta] at hv
    have hv := hv.val
    have h : Holds F0 W0 R0 f σ a w := ⟨R, φ, hR, hR', hrel, hdf⟩
    cases b with
    | true => exact wp_cond_true hv (ihx _ hos.1 h hr hq)
    | false => exact wp_cond_false hv (ihy _ hos.2 h hr hq)
  | block id x ihx =>
    intro os hos f σ K a w Q h hr hq
    simp only [runC] at hr
    refine wp_block (ihx _ hos h hr fun e f' σ' a' w' h' hk => ?_)
    cases e with
    | normal => exact hq .normal f' σ' a' w' h' hk
    | ret => exact hq .ret f' σ' a' w' h' hk
    | exit j =>
      simp only at hk
      show if j = id then _ else _
      cases hj : Nat.beq j id with
      | true =>
        obtain rfl := Nat.eq_of_beq_eq_true hj
        simp only [hj] at hk
        rw [if_pos rfl]
        exact hq .normal f' σ' a' w' h' hk
      | false =>
        simp only [hj] at hk
        rw [if_neg (Nat.ne_of_beq_eq_false hj)]
        exact hq (.exit j) f' σ' a' w' h' hk
  | loop body ih =>
    intro os hos f σ K a w Q h hr hq
    simp only [runC] at hr
    split at hr
    case h_2 => exact hr.elim
    rename_i o
    refine Code.wp_mono (fun e' a' w' hq' => ?_) (hos o rfl hr h)
    obtain ⟨e, f', σ', rfl, h', hk⟩ := hq'
    rw [normF_eq, normL_eq] at hk
    exact hq e f' σ' a' w' h' hk
  | exit id => intro os _ f σ K a w Q h hr hq; exact wp_exit (hq (.exit id) f σ a w h hr)
  | ret => intro os _ f σ K a w Q h hr hq; exact wp_ret (hq .ret f σ a w h hr)
  | _ => intro os _ f σ K a w Q h hr hq; exact (show False from hr).elim

/-- A function's result. -/
def aRes1 (tt : List TE) (f : List AV) (σ : St) : ResultVar → Option AV
  | .tmp t => some (f.getD t .dead)
  | .cell t ty => match aLoad tt ty (f.getD t .dead) σ with
    | some (true, u) => some u
    | _ => none
def aResL (tt : List TE) (f : List AV) (σ : St) : List ResultVar → Option (List AV)
  | [] => some []
  | r :: rs => match aRes1 tt f σ r, aResL tt f σ rs with
    | some u, some us => some (u :: us)
    | _, _ => none
def aRes (tt : List TE) (rs : List ResultVar) (f : List AV) (σ : St) : Option AV :=
  match aResL tt f σ rs with
  | some [u] => some u
  | some us => some (.t us)
  | none => none

theorem aResL_ok {P : Program} {tt : List TE} (ht : TTok P tt) {F0 : Nat → Nat → Prop} {W0 : World} {R : Nat → Prop} {φ : Phi} {σ : St} {f : List AV} {tmps : Array Value} {W : World} (h : Rel F0 W0 R φ σ f tmps W) : ∀ (rs : List ResultVar) (us : List AV), aResL tt f σ rs = some us →
    ∃ vs : List Value, (rs.mapM (fun (r : ResultVar) => match r with | .tmp t => (pure (tmps.getD t undef) : Sem Value) | .cell a t => do loadVar t (← asAddr (tmps.getD a undef)))).run P W = .ok vs W ∧ us.length = vs.length ∧ ∀ (k : Nat) (u : AV) (x : Value), us[k]? = some u → vs[k]? = some x → VR R φ W u x := by
  have hev : ∀ t, VR R φ W (f.getD t .dead) (tmps.getD t undef) := fun t => ev_ok h [] (.tmp t)
  intro rs
  induction rs with
  | nil => intro us hu; obtain rfl := Option.some.inj hu; exact ⟨[], by simp, rfl, fun k u x hu => by simp at hu⟩
  | cons r rs ih =>
    intro us hu
    simp only [aResL] at hu
    split at hu
    case h_2 => cases hu
    rename_i u us' h1 h2
    obtain rfl := Option.some.inj hu
    obtain ⟨vs, e1, e2, e3⟩ := ih us' h2
    obtain ⟨v, e4, e5⟩ : ∃ v, (match r with | .tmp t => (pure (tmps.getD t undef) : Sem Value) | .cell a t => do loadVar t (← asAddr (tmps.getD a undef))).run P W = .ok v W ∧ VR R φ W u v := by
      cases r with
      | tmp t => obtain rfl := Option.some.inj h1; exact ⟨_, rfl, hev t⟩
      | cell a t =>
        simp only [aRes1] at h1
        split at h1
        case h_2 => cases h1
        rename_i u' hl
        obtain rfl := Option.some.inj h1
        obtain ⟨y, g1, g2⟩ := aLoad_ok (P := P) ht h.sim (hev a) hl rfl
        refine ⟨y, ?_, g2⟩
        have hp : ∃ ad, tmps.getD a undef = .pointer (some ad) := by
          have hv := hev a
          generalize f.getD a .dead = w at hv hl
          generalize tmps.getD a undef = v at hv
          cases hv with
          | p h => exact ⟨_, rfl⟩
          | q h => exact ⟨_, rfl⟩
          | imm hi => cases hi with
            | ip => exact ⟨_, rfl⟩
            | _ => simp [aLoad] at hl; split at hl <;> cases hl
          | _ => simp [aLoad] at hl; split at hl <;> cases hl
        obtain ⟨ad, had⟩ := hp
        rw [had] at g1
        simp only [Instr.loadAt, Instr.sureAddr, Sem.run_bind, Sem.run_pure, Result.andThen_ok] at g1
        show (do loadVar t (← asAddr (tmps.getD a undef)) : Sem Value).run P W = _
        rw [had]
        simp only [asAddr, Sem.run_bind, Sem.run_pure, Result.andThen_ok]
        exact g1
    refine ⟨v :: vs, ?_, by simp [e2], fun k w x hw hx => ?_⟩
    · simp only [List.mapM_cons, Sem.run_bind, e4, Result.andThen_ok, e1, Sem.run_pure]
    · cases k with
      | zero => simp at hw hx; subst hw hx; exact e5
      | succ k => exact e3 k w x (by simpa using hw) (by simpa using hx)

theorem aRes_ok {P : Program} {tt : List TE} (ht : TTok P tt) {F0 : Nat → Nat → Prop} {W0 : World} {R : Nat → Prop} {φ : Phi} {σ : St} {f : List AV} {tmps : Array Value} {W : World} (h : Rel F0 W0 R φ σ f tmps W) {fn : Func} {u : AV} (hu : aRes tt fn.results.toList f σ = some u) :
    ∃ v, (results fn tmps).run P W = .ok v W ∧ VR R φ W u v := by
  unfold aRes at hu
  cases hl : aResL tt f σ fn.results.toList with
  | none => simp [hl] at hu
  | some us =>
    obtain ⟨vs, e1, e2, e3⟩ := aResL_ok (P := P) ht h _ us hl
    have hrun : (fn.results.mapM (fun (r : ResultVar) => match r with | .tmp t => (pure (tmps.getD t undef) : Sem Value) | .cell a t => do loadVar t (← asAddr (tmps.getD a undef)))).run P W = .ok vs.toArray W := by
      rw [Array.mapM_eq_mapM_toList, Sem.run_map, e1]; rfl
    have key : ∀ v, (if h : vs.toArray.size = 1 then vs.toArray[0] else Value.tuple vs.toArray) = v → (results fn tmps).run P W = .ok v W := by
      intro v hv
      unfold results
      simp only [Sem.run_bind, Sem.run_pure]
      refine (congrArg (fun r => Result.andThen r _) hrun).trans ?_
      simp only [Result.andThen_ok]
      rw [hv]
    simp only [hl] at hu
    split at hu
    · rename_i us' u' hs
      obtain rfl := Option.some.inj hu
      obtain rfl := Option.some.inj hs
      match vs, e2, e3, key with
      | [v], _, e3, key => exact ⟨v, key v rfl, e3 0 _ v rfl rfl⟩
    · rename_i us' hne hs
      obtain rfl := Option.some.inj hu
      obtain rfl := Option.some.inj hs
      have hlen : ¬ vs.toArray.size = 1 := by
        intro h1
        match us, e2, hne with
        | [u'], _, hne => exact hne u' rfl
        | [], e2, _ => simp at h1 e2; omega
        | _ :: _ :: _, e2, _ => simp at h1 e2; omega
      exact ⟨.tuple vs.toArray, key _ (by rw [dif_neg hlen]), .t e2 e3⟩
    · rename_i hs; cases hs

/-- A function from a state of its own on: what it answers, and the roots behind it. -/
def runF (X : Cx) (fn : Func) (c : Code) (os : List Orc) (args : List AV) (σ : St) (K : AV → St → Prop) : Prop :=
  tr (normL (args ++ List.replicate (fn.ntmps - args.length) .dead) fun f => runC X c os f σ fun e f σ' => match e with
    | .exit _ => none
    | _ => match aRes X.tt fn.results.toList f σ' with
      | some u => forceK u fun u => some (K u σ')
      | none => none)

def bodyOf (fn : Func) : Code := fn.body.getD .skip

/-- A function's run. F0: what its arguments' roots own. -/
theorem runF_ok {P : Program} {X : Cx} (hX : CxOk P X) {g : Nat} {fn : Func} (hg : P.funcs[g]? = some fn) {c : Code} (hc : fn.body = some c) {os : List Orc} (hos : OrcsOk P c os) {args : List AV} {σ : St} {K : AV → St → Prop} (hr : runF X fn c os args σ K)
    {F0 : Nat → Nat → Prop} {R : Nat → Prop} {φ : Phi} {vals : List Value} {W : World} (hs : Sim R φ σ W) (hF : ∀ (l : Nat) (B : Blk), σ[l]? = some B → ∀ b k, own φ l B b k → F0 b k) (hl : args.length = vals.length) (hv : ∀ (k : Nat) (u : AV) (x : Value), args[k]? = some u → vals[k]? = some x → VR R φ W u x) :
    Calls P g vals.toArray W fun e W' => ∃ u σ' v R' φ' f' tmps', K u σ' ∧ e = .returned v ∧ (∀ b, R b → R' b) ∧ (∀ b, R' b → R b ∨ W.heap.size ≤ b ∨ ∃ k, F0 b k) ∧ Rel F0 W R' φ' σ' f' tmps' W' ∧ VR R' φ' W' u v := by
  refine calls_of_wp hg hc ?_
  have hH : Holds F0 W R (args ++ List.replicate (fn.ntmps - args.length) .dead) σ { tmps := vals.toArray ++ Array.replicate (fn.ntmps - vals.toArray.size) undef, defers := [] } W := by
    refine ⟨R, φ, fun _ h => h, fun _ h => .inl h, ⟨hs, fun t w hw => ?_, fun l B e b k hw => .inl (hF l B e b k hw), Keep.refl _ _, by simp [hl]⟩, rfl⟩
    rw [List.getElem?_append] at hw
    split at hw
    · rename_i hlt
      obtain ⟨x, hx⟩ := vs_get hl hw
      have : (vals.toArray ++ Array.replicate (fn.ntmps - vals.toArray.size) undef).getD t undef = x := by
        rw [Array.getD_eq_getD_getElem?, Array.getElem?_append_left (by simp; omega)]
        simp [hx]
      rw [this]; exact hv t w x hw hx
    · rw [List.getElem?_replicate] at hw
      split at hw
      · obtain rfl := Option.some.inj hw; exact .dead _
      · cases hw
  unfold runF at hr
  rw [normL_eq] at hr
  refine runC_ok hX c os hos hH hr fun e f' σ1 a' w' h' hk => ?_
  obtain ⟨R', φ', hR, hR', hrel, hd⟩ := h'
  have fin : tr (match aRes X.tt fn.results.toList f' σ1 with | some u => forceK u fun u => some (K u σ1) | none => none) → a'.defers = [] ∧ ∃ v, (results fn a'.tmps).run P w' = .ok v w' ∧ ∃ u σ' v' R' φ' f' tmps', K u σ' ∧ Ending.returned v = .returned v' ∧ (∀ b, R b → R' b) ∧ (∀ b, R' b → R b ∨ W.heap.size ≤ b ∨ ∃ k, F0 b k) ∧ Rel F0 W R' φ' σ' f' tmps' w' ∧ VR R' φ' w' u v' := by
    intro hk
    split at hk
    case h_2 => exact hk.elim
    rename_i u1 hu
    rw [forceK_eq] at hk
    obtain ⟨v, e1, e2⟩ := aRes_ok (P := P) hX.tt hrel hu
    exact ⟨hd, v, e1, u1, σ1, v, R', φ', f', a'.tmps, hk, rfl, hR, hR', hrel, e2⟩
  cases e with
  | normal => exact fin hk
  | ret => exact fin hk
  | exit id => exact hk.elim

/-- Values that hang on no root. -/
def closed : AV → Bool
  | .v x => scal x
  | .i _ _ _ => true
  | .a cs => cs.all pureCell
  | .t cs => cs.all fun u => match u with | .a cs => cs.all pureCell | u => pureCell u
  | _ => false

theorem closed_ok {R : Nat → Prop} {φ φ' : Phi} {W : World} {u : AV} {v : Value} (hc : closed u = true) (h : VR R φ W u v) : VR R φ' W u v := by
  have pc : ∀ {u : AV} {v : Value}, pureCell u = true → VR R φ W u v → VR R φ' W u v := fun hp h => .imm (pureCell_ok h hp).1
  have ag : ∀ {cs : List AV} {v : Value}, cs.all pureCell = true → VR R φ W (.a cs) v → VR R φ' W (.a cs) v := by
    intro cs v hp h
    obtain ⟨vs, rfl, hl, hr⟩ := h.agg
    exact .a hl fun k w x hw hx => pc (List.all_eq_true.1 hp w (List.mem_of_getElem? hw)) (hr k w x hw hx)
  cases u with
  | v x => exact pc hc h
  | i sz n get => exact pc rfl h
  | a cs => exact ag hc h
  | t cs =>
    obtain ⟨vs, rfl, hl, hr⟩ := h.tup
    refine .t hl fun k w x hw hx => ?_
    have := List.all_eq_true.1 hc w (List.mem_of_getElem? hw)
    have hv := hr k w x hw hx
    cases w with
    | a cs => exact ag this hv
    | _ => exact pc this hv
  | _ => cases hc

/-- A contract of a function that only reckons: its values hang on no root, and it is told from no root. -/
def pureCtr (G : List AV → Option (Bool × AV)) : Ctr := fun args σ => match G args with | some (c, u) => some (c, u, σ) | none => none
theorem pureCtr_pure (G : List AV → Option (Bool × AV)) : CtrPure (pureCtr G) := by
  intro args σ c u σ' h
  unfold pureCtr at h ⊢
  cases hG : G args with
  | none => simp [hG] at h
  | some p =>
    obtain ⟨c0, u0⟩ := p
    simp only [hG, Option.some.injEq, Prod.mk.injEq] at h
    obtain ⟨rfl, rfl, rfl⟩ := h
    exact ⟨rfl, fun _ => rfl⟩

theorem pureCtr_ok {P : Program} {X : Cx} (hX : CxOk P X) {g : Nat} {fn : Func} (hg : P.funcs[g]? = some fn) (hnm : (fn.name == "runtime.NumGoroutine") = false) (hc : fn.body = some (bodyOf fn)) {G : List AV → Option (Bool × AV)}
    (hG : ∀ args u, G args = some (true, u) → closed u = true ∧ args.all closed = true ∧ ∃ os, OrcL P (bodies (bodyOf fn)) os ∧ runF X fn (bodyOf fn) os args [] fun u' _ => u' = u) : CtrOk P g (pureCtr G) := by
  refine ⟨⟨fn, hg, hnm, by rw [hc]; rfl⟩, ?_⟩
  intro args σ u σ' h F0 W0 R φ f tmps W hrel vals hl hv
  unfold pureCtr at h
  split at h
  case h_2 => cases h
  rename_i c1 u1 hG1
  simp only [Option.some.injEq, Prod.mk.injEq] at h
  obtain ⟨rfl, rfl, rfl⟩ := h
  obtain ⟨hcl, hca, os, hos, hrun⟩ := hG args u1 hG1
  have hs : Sim R (fun _ => none) [] W := ⟨fun l B h => by simp at h, fun l l' B B' _ h => by simp at h, fun l B h => by simp at h, hrel.sim.old, fun l _ => rfl⟩
  refine (runF_ok hX hg hc (orcs_ok _ _ hos) hrun (F0 := fun _ _ => False) hs (fun l B h => by simp at h) hl fun k w x hw hx => closed_ok (List.all_eq_true.1 hca w (List.mem_of_getElem? hw)) (hv k w x hw hx)).mono ?_
  rintro e W' ⟨_, _, v, R', φ', f', tmps', rfl, rfl, hR, hR', hrel', hv'⟩
  have hk := hrel'.keep
  have hcalm : Calm R W W' := hk.calm fun _ _ h => h.elim
  refine ⟨v, R', φ, rfl, hR, fun b hb => ?_, ⟨⟨fun l B e => (hrel.sim.blk l B e).kept hk hR (fun _ _ h => h.elim) (fun _ _ _ h => h.elim) (Ext.refl _), hrel.sim.sep, fun l B e b k hw hb => ?_, hrel'.sim.old, hrel.sim.dom⟩, fun t w hw => (hrel.fr t w hw).mono hR hcalm hk.room_le (Ext.refl _), hrel.reg, hrel.keep.trans hk fun _ _ h => h.elim, hrel.len⟩, closed_ok hcl hv'⟩
  · rcases hR' b hb with h | h | ⟨k, h⟩
    · exact .inl h
    · exact .inr (.inl h)
    · exact h.elim
  · rcases hR' b hb with h | h | ⟨k, h⟩
    · exact hrel.sim.ro l B e b k hw h
    · have := (hrel.sim.blk l B e).owned hw; omega
    · exact h.elim

/-- A function without loops. -/
theorem straight {P : Program} {X : Cx} {fn : Func} {args : List AV} {σ : St} {K : AV → St → Prop} (hb : bodies (bodyOf fn) = []) (h : runF X fn (bodyOf fn) [] args σ K) : ∃ os, OrcL P (bodies (bodyOf fn)) os ∧ runF X fn (bodyOf fn) os args σ K := ⟨[], by rw [hb]; trivial, h⟩
theorem leaf {p : Prop} (h : p) : tr (some p) := h
/-- A test parts the way. -/
theorem br {b : Bool} {x y : Option Prop} (ht : b = true → tr x) (hf : b = false → tr y) : tr (cond b x y) := by
  cases b
  · exact hf rfl
  · exact ht rfl
/-- A condition is met. -/
theorem brt {b : Bool} {x y : Option Prop} (h : b = true) (ht : tr x) : tr (cond b x y) := by rw [h]; exact ht
theorem brf {b : Bool} {x y : Option Prop} (h : b = false) (ht : tr y) : tr (cond b x y) := by rw [h]; exact ht

abbrev i64 (n : Int) : AV := .v (.int .i64 n)
abbrev u64 (n : Int) : AV := .v (.int .u64 n)
abbrev boo (b : Bool) : AV := .v (.bool b)
/-- Arguments that are whole numbers. -/
def int1 (F : Int → Option (Bool × AV)) : List AV → Option (Bool × AV)
  | [.v (.int .i64 a)] => F a
  | _ => none
def int2 (F : Int → Int → Option (Bool × AV)) : List AV → Option (Bool × AV)
  | [.v (.int .i64 a), .v (.int .i64 b)] => F a b
  | _ => none
def int3 (F : Int → Int → Int → Option (Bool × AV)) : List AV → Option (Bool × AV)
  | [.v (.int .i64 a), .v (.int .i64 b), .v (.int .i64 c)] => F a b c
  | _ => none
theorem int1_some {F : Int → Option (Bool × AV)} {args : List AV} {u : Bool × AV} (h : int1 F args = some u) : ∃ a, args = [i64 a] ∧ F a = some u := by
  unfold int1 at h
  split at h
  · exact ⟨_, rfl, h⟩
  · cases h
theorem int2_some {F : Int → Int → Option (Bool × AV)} {args : List AV} {u : Bool × AV} (h : int2 F args = some u) : ∃ a b, args = [i64 a, i64 b] ∧ F a b = some u := by
  unfold int2 at h
  split at h
  · exact ⟨_, _, rfl, h⟩
  · cases h
theorem int3_some {F : Int → Int → Int → Option (Bool × AV)} {args : List AV} {u : Bool × AV} (h : int3 F args = some u) : ∃ a b c, args = [i64 a, i64 b, i64 c] ∧ F a b c = some u := by
  unfold int3 at h
  split at h
  · exact ⟨_, _, _, rfl, h⟩
  · cases h
end Go.Proofs.Ytohgniddfpjjfaa.E
