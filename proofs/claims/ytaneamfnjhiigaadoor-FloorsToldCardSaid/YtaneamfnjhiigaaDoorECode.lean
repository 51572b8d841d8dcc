/- The engine, part 20: code, loops by what is told of them, ranges over functions, functions. -/
import Derived.Test.YtaneamfnjhiigaaDoorECov
namespace Go.Proofs.YtaneamfnjhiigaaDoor.E
open Go
set_option linter.unusedSimpArgs false
set_option linter.unusedVariables false
noncomputable section

/-- What goes on behind. -/
abbrev Cont := Ex → List AV → St → Option Prop

structure Cx where
  tt : List TE
  cs : Ctrs
  kd : Kinds
  ks : Runs

/-- A frame, written out. -/
def normF {α : Type} : List AV → (List AV → α) → α
  | [], K => K []
  | u :: l, K => forceK u fun u => normF l fun l => K (u :: l)
theorem normF_eq {α : Type} : ∀ (l : List AV) (K : List AV → α), normF l K = K l
  | [], _ => rfl
  | u :: l, K => by simp only [normF, forceK_eq]; exact normF_eq l _

/-- An operation that is done by its contract, with what goes on behind it. -/
def doD (tt : List TE) (cs : Ctrs) (o : Oper) (f : List AV) (σ : St) (K : List AV → St → Option Prop) : Option Prop :=
  match o.op with
  | .pick c a b => match ev f c with
    | .v (.bool x) => cond x (putK f o.dst (ev f a) σ K) (putK f o.dst (ev f b) σ K)
    | _ => none
  | .call { callee := .value g, args := args, .. } => match ev f g with
    | .f (.func g) us ls => match ctr cs g with
      | some G => match G (us ++ args.toList.map (ev f) ++ ls) σ with
        | some (c, u, σ') => cond c (putK f o.dst u σ' K) none
        | none => none
      | none => none
    | _ => none
  | op => match aOp tt op f σ with
    | some (c, u, σ') => cond c (putK f o.dst u σ' K) none
    | none => none
def doE (X : Cx) (N : Nat) (ops : List Oper) (o : Oper) (f : List AV) (σ : St) (K : List AV → St → Option Prop) : Option Prop :=
  match isNew o.op with
  | true => match aOp X.tt o.op f [] with
    | some (c, u, [B]) => match σ[slotOf N ops o]? with
      | some .free => cond c (putK f o.dst (atR (slotOf N ops o) u) (σ.set (slotOf N ops o) B) K) none
      | _ => none
    | _ => none
  | false => doD X.tt X.cs o f σ K
def stepD (X : Cx) (N : Nat) (ops : List Oper) (o : Oper) (f : List AV) (σ : St) (K : List AV → St → Lab → Option Prop) : Option Prop :=
  match o.guard with
  | none => doE X N ops o f σ fun f' σ' => K f' σ' (labV X.kd N ops o f σ)
  | some (j, want) => match gval ops f j with
    | some (some b) => cnd want b (doE X N ops o f σ fun f' σ' => K f' σ' (labV X.kd N ops o f σ)) (putK f o.dst (.v undef) σ fun f' σ' => K f' σ' lab0)
    | some none => putK f o.dst (.v undef) σ fun f' σ' => K f' σ' lab0
    | none => none
/-- A region that draws its order, by the text's. -/
def drawK (X : Cx) (N : Nat) (ops : List Oper) : List Oper → List AV → St → List Lab → (List AV → St → List Lab → Option Prop) → Option Prop
  | [], f, σ, ls, K => K f σ ls
  | o :: l, f, σ, ls, K => stepD X N ops o f σ fun f' σ' lb => normL lb.rd fun rd => normL lb.wr fun wr => normL (ls ++ [⟨lb.n, rd, wr, lb.ap⟩]) fun ls => drawK X N ops l f' σ' ls K

theorem doD_eq {tt : List TE} {cs : Ctrs} {o : Oper} {f : List AV} {σ : St} {K : List AV → St → Option Prop} (h : tr (doD tt cs o f σ K)) : ∃ u σ', doV tt cs o f σ = some (u, σ') ∧ tr (K (put1 f o.dst u) σ') := by
  unfold doD at h
  unfold doV
  split at h
  · rename_i c a b hop
    split at h
    · rename_i x hx
      simp only [hop, hx]
      cases x <;> simp only [cond, putK_eq] at h <;> exact ⟨_, _, rfl, h⟩
    · exact h.elim
  · rename_i g args ats hop
    split at h
    case h_2 => exact h.elim
    rename_i g' us ls hg
    split at h
    case h_2 => exact h.elim
    rename_i G hG
    split at h
    case h_2 => exact h.elim
    rename_i c u σ' h0
    cases c with
    | false => exact h.elim
    | true =>
      simp only [cond, putK_eq] at h
      exact ⟨u, σ', by simp only [hop, hg, hG, h0, cond], h⟩
  · rename_i op hnp hnc
    split at h
    case h_2 => exact h.elim
    rename_i c u σ' h0
    cases c with
    | false => exact h.elim
    | true =>
      simp only [cond, putK_eq] at h
      refine ⟨u, σ', ?_, h⟩
      split
      · rename_i h; exact absurd h (hnp _ _ _)
      · rename_i h; exact absurd h (hnc _ _ _)
      · simp only [h0, cond]

theorem doE_eq {X : Cx} {N : Nat} {ops : List Oper} {o : Oper} {f : List AV} {σ : St} {K : List AV → St → Option Prop} (h : tr (doE X N ops o f σ K)) : ∃ u σ', doS X.tt X.cs N ops o f σ = some (u, σ') ∧ tr (K (put1 f o.dst u) σ') := by
  unfold doE at h
  unfold doS
  split at h
  · rename_i hn
    simp only [hn]
    split at h
    case h_2 => exact h.elim
    rename_i c u B ha
    split at h
    case h_2 => exact h.elim
    rename_i hf
    cases c with
    | false => exact h.elim
    | true =>
      simp only [cond, putK_eq] at h
      exact ⟨_, _, by simp only [ha, hf, cond], h⟩
  · rename_i hn
    simp only [hn]
    exact doD_eq h
theorem stepD_eq {X : Cx} {N : Nat} {ops : List Oper} {o : Oper} {f : List AV} {σ : St} {K : List AV → St → Lab → Option Prop} (h : tr (stepD X N ops o f σ K)) : ∃ f' σ', stepS X.tt X.cs N ops o f σ = some (f', σ') ∧ tr (K f' σ' (labF X.kd N ops o f σ)) := by
  unfold stepD at h
  unfold stepS valS labF
  cases hg : o.guard with
  | none =>
    simp only [hg] at h ⊢
    obtain ⟨u, σ', h1, h2⟩ := doE_eq h
    exact ⟨_, _, by rw [h1], h2⟩
  | some jw =>
    obtain ⟨j, want⟩ := jw
    simp only [hg] at h ⊢
    cases hb : gval ops f j with
    | none => simp only [hb] at h; exact h.elim
    | some b =>
      cases b with
      | none =>
        simp only [hb, putK_eq] at h ⊢
        exact ⟨_, _, rfl, h⟩
      | some b =>
        simp only [hb, cnd_eq] at h ⊢
        cases hq : (b == want) with
        | true =>
          simp only [hq, cond] at h ⊢
          obtain ⟨u, σ', h1, h2⟩ := doE_eq h
          exact ⟨_, _, by rw [h1], h2⟩
        | false =>
          simp only [hq, cond, putK_eq] at h ⊢
          exact ⟨_, _, rfl, h⟩

/-- What holds behind a round of a loop. -/
def After {β : Type} (nb : Nat) (inv : β → Prop) (hf : β → List AV) (hs : β → St) (μ : β → Nat) (x : β) (K : Ex → List AV → St → Prop) : Ex → List AV → St → Prop
  | .normal, f, σ => ∃ y, inv y ∧ μ y < μ x ∧ Cov nb (hf y) (hs y) f σ
  | e, f, σ => K e f σ ∨ ∃ f0 σ0, Cov nb f0 σ0 f σ ∧ K e f0 σ0
/-- A loop, by a family of states at its head. -/
def LoopP (nb : Nat) (round : List AV → St → (Ex → List AV → St → Prop) → Option Prop) (f : List AV) (σ : St) (K : Ex → List AV → St → Prop) : Prop :=
  ∃ (β : Type) (inv : β → Prop) (hf : β → List AV) (hs : β → St) (μ : β → Nat) (x0 : β), inv x0 ∧ Cov nb (hf x0) (hs x0) f σ ∧
    ∀ x, inv x → tr (normF (hf x) fun f => normL (hs x) fun σ => round f σ (After nb inv hf hs μ x K))

/-- Slots that are set one behind the other. -/
def setMany (f : List AV) : List Tmp → List AV → List AV
  | p :: ps, u :: us => setMany (f.set p u) ps us
  | _, _ => f
def isN : Ex → Bool
  | .normal => true
  | _ => false

/-- Where ways come together: a family of states from which what is behind goes on. -/
def JoinP (nb : Nat) (first : (List AV → St → Prop) → Option Prop) (rest : List AV → St → Prop) : Prop :=
  ∃ (β : Type) (inv : β → Prop) (hf : β → List AV) (hs : β → St), tr (first fun f σ => ∃ y, inv y ∧ Cov nb (hf y) (hs y) f σ) ∧ ∀ y, inv y → rest (hf y) (hs y)
/-- Whether ways come together behind this piece: told by the context. -/
def hasJ : Kinds → Nat → Bool
  | [], _ => false
  | (g, _) :: l, k => match Nat.beq g k with
    | true => true
    | false => hasJ l k
def isJ (kd : Kinds) : Code → Bool
  | .cond (.tmp n) _ _ => hasJ kd (1000000000 + n)
  | .block id _ => hasJ kd (1000100000 + id)
  | .seq _ (.block id _) => hasJ kd (1000100000 + id)
  | .seq _ (.cond (.tmp n) _ _) => hasJ kd (1000000000 + n)
  | .region id _ _ => hasJ kd (1000200000 + id)
  | _ => false
/-- Code, and what goes on behind it. nb: so many roots keep their names. -/
def runC (X : Cx) (Y : YE) (nb : Nat) : Code → List AV → St → Cont → Option Prop
  | .skip, f, σ, K => K .normal f σ
  | .region _ ops false, f, σ, K => opsK X.tt X.cs X.ks Y ops.toList ops.toList f σ (K .normal)
  | .region _ ops true, f, σ, K => normL (σ ++ List.replicate (newD ops.toList).length .free) fun σ0 => drawK X σ.length ops.toList ops.toList f σ0 [] fun f' σ' ls => match okDraw X.kd ops ls with
    | true => K .normal f' σ'
    | false => none
  | .seq a b, f, σ, K => match isJ X.kd a with
    | true => some (JoinP nb (fun A => runC X Y nb a f σ fun e f' σ' => match e with
        | .normal => some (A f' σ')
        | e => K e f' σ') fun f σ => tr (normF f fun f => normL σ fun σ => runC X Y nb b f σ K))
    | false => runC X Y nb a f σ fun e f' σ' => match e with
      | .normal => runC X Y nb b f' σ' K
      | e => K e f' σ'
  | .cond c a b, f, σ, K => match ev f c with
    | .v (.bool x) => cond x (runC X Y nb a f σ K) (runC X Y nb b f σ K)
    | _ => none
  | .block id a, f, σ, K => runC X Y nb a f σ fun e f' σ' => match e with
    | .exit j => match Nat.beq j id with
      | true => K .normal f' σ'
      | false => K (.exit j) f' σ'
    | e => K e f' σ'
  | .loop body, f, σ, K => some (LoopP nb (fun f σ A => runC X Y nb body f σ fun e f σ => some (A e f σ)) f σ fun e f' σ' => tr (normF f' fun f' => normL σ' fun σ' => K e f' σ'))
  | .exit id, f, σ, K => K (.exit id) f σ
  | .label _, f, σ, K => K .normal f σ
  | .scope c, f, σ, K => runC X Y nb c f σ K
  | .ret, f, σ, K => K .ret f σ
  | .rangeFunc g ps assign body, f, σ, K => match ev f g with
    | .f (.func gf) us ls => match run X.ks gf with
      | some T => normL (us ++ [.y σ.length] ++ ls) fun as => normL (σ ++ [.lrec .normal]) fun σ1 => T as σ1
          (fun k => match Nat.beq k σ.length with
            | true => some fun args σ2 K1 => match σ2[σ.length]? with
              | some (.lrec .normal) => match Nat.beq args.length ps.size with
                | true => normL (setMany f ps.toList args) fun f1 => runC X Y σ2.length assign f1 σ2 fun e f2 σ3 => match e with
                  | .normal => match σ3[σ.length]? with
                    | some (.lrec .normal) => normL (σ3.set σ.length .held) fun σ3 => runC X Y σ2.length body f2 σ3 fun e _ σ4 => match σ4[σ.length]? with
                      | some .held => normL (σ4.set σ.length (.lrec e)) fun σ4 => K1 (.v (.bool (isN e))) σ4
                      | _ => none
                    | _ => none
                  | _ => none
                | false => none
              | _ => none
            | false => Y k)
          (fun _ σ' => match σ'[σ.length]? with
            | some (.lrec .normal) => normL (σ'.set σ.length .gone) fun σ' => K .normal f σ'
            | some (.lrec e) => normL (σ'.set σ.length .gone) fun σ' => K e f σ'
            | _ => none)
      | none => none
    | _ => none
  | _, _, _, _ => none

structure CxOk (P : Program) (X : Cx) : Prop where
  tt : TTok P X.tt
  cs : CtrsOk P X.cs
  kd : KindsOk X.cs X.kd
  ks : RunsOk P X.ks
  mixed : P.follows .mixedOrders = true

theorem drawK_eq {X : Cx} {N : Nat} {ops : List Oper} : ∀ (l : List Oper) (f : List AV) (σ : St) (ls : List Lab) (K : List AV → St → List Lab → Option Prop), tr (drawK X N ops l f σ ls K) →
    ∃ f' σ', opsS X.tt X.cs N ops l f σ = some (f', σ') ∧ tr (K f' σ' (ls ++ labsF X.tt X.cs X.kd N ops l f σ)) := by
  intro l
  induction l with
  | nil => intro f σ ls K h; exact ⟨f, σ, rfl, by simpa [labsF, drawK] using h⟩
  | cons o l ih =>
    intro f σ ls K h
    simp only [drawK] at h
    obtain ⟨f1, σ1, hs, h⟩ := stepD_eq h
    simp only [normL_eq] at h
    obtain ⟨f', σ', h1, h2⟩ := ih f1 σ1 _ K h
    refine ⟨f', σ', by simp only [opsS, hs]; exact h1, ?_⟩
    simp only [labsF, hs]
    simpa using h2

/-! ### Records of loops -/
theorem Keep.putLoop {W : World} {b : Nat} {r : Loop} (h : W.heap[b]? = some (.loop r)) (st : LoopState) (pe : Option Code) : Keep (fun b' _ => b' = b) W (W.putObj b (.loop { r with state := st, pending := pe })) where
  os := rfl
  tape := rfl
  output := rfl
  size := by simp
  obj b' _ hn := World.putObj_heap_other fun e => hn 0 e
  cells b' c T fr hc := by
    have hne : b' ≠ b := fun e => by subst e; rw [h] at hc; cases hc
    exact ⟨c, by rw [World.putObj_heap_other hne]; exact hc, rfl, fun _ _ => rfl⟩
  loops b' r' hr := by
    by_cases e : b' = b
    · subst e
      rw [h] at hr
      obtain rfl : r = r' := by injection hr with hr; injection hr
      exact ⟨st, pe, World.putObj_heap_same (Array.getElem?_eq_some_iff.1 h).1⟩
    · exact ⟨r'.state, r'.pending, by rw [World.putObj_heap_other e]; exact hr⟩

/-- A record is turned. -/
theorem Turn.putLoop {R : Nat → Prop} {φ : Phi} {σ : St} {W : World} (hs : Sim R φ σ W) {l b : Nat} {B B' : Blk} (hl : σ[l]? = some B) (hB : B = .held ∨ ∃ e, B = .lrec e) (hb : φ l = some (some (b, 0))) {r : Loop} (hr : W.heap[b]? = some (.loop r)) {st : LoopState} {pe : Option Code}
    (hB' : BlkOk R φ (W.putObj b (.loop { r with state := st, pending := pe })) l B') (ho : ∀ b' k, own φ l B' b' k → b' = b) : Turn R φ σ W R φ (σ.set l B') (W.putObj b (.loop { r with state := st, pending := pe })) := by
  have hw : ∀ k, own φ l B b k := fun k => by rcases hB with rfl | ⟨e, rfl⟩ <;> exact hb
  have h : Rel (Owned φ σ) W R φ σ [] #[] W := localRel hs rfl fun t u h => by simp at h
  have := Rel.turn h (l := l) (src := l) (B' := B') (σ' := σ.set l B') (Keep.putLoop hr st pe) (Ext.refl _) (fun _ _ h => h) (fun b' k hg => ⟨B, hl, by subst hg; exact hw k⟩) hB' (fun b' k hg => .inl ⟨B, hl, by rw [ho b' k hg]; exact hw k⟩)
    (fun m B0 hm => by
      by_cases hne : m = l
      · subst hne; exact .inl ⟨rfl, set_get_self hm⟩
      · exact .inr (.inr ⟨hne, hne, set_get hm hne⟩)) (fun m hm => hs.dom m (by simpa using hm))
  exact turn_of_rel (fun _ h => h) (fun _ h => .inl h) (Ext.refl _) this

/-- An object that hangs on no root. -/
theorem Turn.alloc {R : Nat → Prop} {φ : Phi} {σ : St} {W : World} (hs : Sim R φ σ W) (o : Obj) : Turn R φ σ W R φ σ (W.alloc o) := by
  have hk := Keep.alloc (fun _ _ => False) W o
  exact ⟨fun _ h => h, fun _ h => .inl h, Ext.refl _, ⟨fun l B e => (hs.blk l B e).kept hk (fun _ h => h) (fun _ _ h => h.elim) (fun _ _ _ h => h.elim) (Ext.refl _) (fun h => h), hs.sep, hs.ro, hs.old.keep hk.size (hk.calm fun _ _ h => h.elim), hs.dom⟩, fun _ _ h => .inl h, hk.mono fun _ _ h => h.elim⟩
theorem Turn.newObj {R : Nat → Prop} {φ : Phi} {σ : St} {W : World} (hs : Sim R φ σ W) (o : Obj) {B : Blk} (hB : BlkOk R (upd φ σ.length (some (W.heap.size, 0))) (W.alloc o) σ.length B) :
    Turn R φ σ W R (upd φ σ.length (some (W.heap.size, 0))) (σ ++ [B]) (W.alloc o) := by
  have h : Rel (Owned φ σ) W R φ σ [] #[] W := localRel hs rfl fun t u h => by simp at h
  exact turn_of_rel (fun _ h => h) (fun _ h => .inl h) (upd_ext _ (hs.dom _ (Nat.le_refl _))) (h.newObj o hB)

theorem setMany_len : ∀ (ps : List Tmp) (us : List AV) (f : List AV), (setMany f ps us).length = f.length
  | p :: ps, u :: us, f => by simp only [setMany]; rw [setMany_len]; simp
  | [], _, f => by simp [setMany]
  | _ :: _, [], f => by simp [setMany]
theorem setMany_rel {R : Nat → Prop} {φ : Phi} {W : World} : ∀ (ps : List Tmp) (us : List AV) (vs : List Value) (f : List AV) (tmps : Array Value), VRs R φ W us vs → us.length = ps.length → f.length = tmps.size → (∀ (t : Nat) (u : AV), f[t]? = some u → VR R φ W u (tmps.getD t undef)) →
    let T := (ps.zip vs).foldl (fun tmps (p : Nat × Value) => tmps.setIfInBounds p.1 p.2) tmps
    (setMany f ps us).length = T.size ∧ ∀ (t : Nat) (u : AV), (setMany f ps us)[t]? = some u → VR R φ W u (T.getD t undef) := by
  intro ps
  induction ps with
  | nil =>
    intro us vs f tmps hv hn hl hf
    cases us with
    | nil => exact ⟨hl, hf⟩
    | cons => simp at hn
  | cons p ps ih =>
    intro us vs f tmps hv hn hl hf
    cases us with
    | nil => simp at hn
    | cons u us =>
      cases vs with
      | nil => have := hv.1; simp at this
      | cons v vs =>
        simp only [List.zip_cons_cons, List.foldl_cons, setMany]
        refine ih us vs (f.set p u) (tmps.setIfInBounds p v) ⟨by have := hv.1; simpa using this, fun k w x hw hx => hv.2 (k + 1) w x (by simpa using hw) (by simpa using hx)⟩ (by simpa using hn) (by simpa using hl) fun t w hw => ?_
        have hlt : t < f.length := by have := lt_of_get? hw; simpa using this
        by_cases e : t = p
        · subst e
          rw [List.getElem?_set_self hlt] at hw
          obtain rfl := Option.some.inj hw
          have : (tmps.setIfInBounds t v).getD t undef = v := by simp [Array.getD, hl ▸ hlt]
          rw [this]
          exact hv.2 0 u v rfl rfl
        · rw [List.getElem?_set_ne (Ne.symm e)] at hw
          have : (tmps.setIfInBounds p v).getD t undef = tmps.getD t undef := by
            simp only [Array.getD_eq_getD_getElem?, Array.getElem?_setIfInBounds_ne (Ne.symm e)]
          rw [this]; exact hf t w hw

/-- In a round: there is the record. -/
def RoundAt (r : Option Nat) (W : World) : Prop := ∀ l, r = some l → ∃ r0, W.heap[l]? = some (.loop r0)

theorem loopP_ok {P : Program} {body : Code} {nb : Nat} {round : List AV → St → (Ex → List AV → St → Prop) → Option Prop} {E : Ent} (hE : E.σ.length ≤ nb) (hdom : ∀ l, E.σ.length ≤ l → E.φ l = none) {r : Option Nat}
    (hround : ∀ {f : List AV} {σ : St} {A : Ex → List AV → St → Prop} {a : Act} {w : World} {Q : Exit → Act → World → Prop}, Holds E f σ a w → tr (round f σ A) → (∀ e f' σ' a' w', Holds E f' σ' a' w' → A e f' σ' → Q e.to a' w') → body.wpIn (fen r) 0 P Q a w)
    {f : List AV} {σ : St} {K : Ex → List AV → St → Prop} (hl : LoopP nb round f σ K) {a : Act} {w : World} {Q : Exit → Act → World → Prop} (hh : Holds E f σ a w) (hq : ∀ e f' σ' a' w', Holds E f' σ' a' w' → K e f' σ' → Q e.to a' w') : (Code.loop body).wpIn (fen r) 0 P Q a w := by
  obtain ⟨β, inv, hf, hs, μ, x0, hi, hc, step⟩ := hl
  have main : ∀ n x a w, μ x < n → inv x → Holds E (hf x) (hs x) a w → Code.roundsIn (fen r) 0 P body Q n a w := by
    intro n
    induction n with
    | zero => intro x a w h; omega
    | succ n ih =>
      intro x a w hn hi hh
      have h := step x hi
      rw [normF_eq, normL_eq] at h
      rw [roundsIn_succ]
      refine hround hh h fun e f' σ' a' w' h' hk => ?_
      cases e with
      | normal =>
        obtain ⟨y, hy, hm, hc⟩ := hk
        exact ih y a' w' (by omega) hy (hc.holds hE hdom h')
      | exit id =>
        rcases hk with hk | ⟨f0, σ0, hc, hk⟩
        · exact hq (.exit id) f' σ' a' w' h' hk
        · exact hq (.exit id) f0 σ0 a' w' (hc.holds hE hdom h') hk
      | ret =>
        rcases hk with hk | ⟨f0, σ0, hc, hk⟩
        · exact hq .ret f' σ' a' w' h' hk
        · exact hq .ret f0 σ0 a' w' (hc.holds hE hdom h') hk
  exact wpIn_loop_rounds (μ x0 + 1) (main _ x0 a w (by omega) hi (hc.holds hE hdom hh))
end
end Go.Proofs.YtaneamfnjhiigaaDoor.E
