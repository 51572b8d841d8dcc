/- The engine, part 22: functions' runs, and contracts out of them. -/
import Derived.Test.YtaneamfnjhiigaaDoorEFunc
namespace Go.Proofs.YtaneamfnjhiigaaDoor.E
open Go
set_option linter.unusedSimpArgs false
set_option linter.unusedVariables false
noncomputable section

/-- A function's result. -/
def aRes1 (tt : List TE) (f : List AV) (σ : St) : ResultVar → Option AV
  | .tmp t => some (f.getD t .dead)
  | .cell t ty => match aLoad tt ty (f.getD t .dead) σ with
    | some (true, u) => some u
    | _ => none
def aResL (tt : List TE) (f : List AV) (σ : St) : List ResultVar → Option (List AV)
  | [] => some []
  | r :: rs => match aRes1 tt f σ r, aResL tt f σ rs with
    | some u, some us => some (u :: us)
    | _, _ => none
def aRes (tt : List TE) (rs : List ResultVar) (f : List AV) (σ : St) : Option AV :=
  match aResL tt f σ rs with
  | some [u] => some u
  | some us => some (.t us)
  | none => none

theorem aResL_ok {P : Program} {tt : List TE} (ht : TTok P tt) {F0 : Nat → Nat → Prop} {W0 : World} {R : Nat → Prop} {φ : Phi} {σ : St} {f : List AV} {tmps : Array Value} {W : World} (h : Rel F0 W0 R φ σ f tmps W) : ∀ (rs : List ResultVar) (us : List AV), aResL tt f σ rs = some us →
    ∃ vs : List Value, (rs.mapM (fun (r : ResultVar) => match r with | .tmp t => (pure (tmps.getD t undef) : Sem Value) | .cell a t => do loadVar t (← asAddr (tmps.getD a undef)))).run P W = .ok vs W ∧ us.length = vs.length ∧ ∀ (k : Nat) (u : AV) (x : Value), us[k]? = some u → vs[k]? = some x → VR R φ W u x := by
  have hev : ∀ t, VR R φ W (f.getD t .dead) (tmps.getD t undef) := fun t => ev_ok h [] (.tmp t)
  intro rs
  induction rs with
  | nil => intro us hu; obtain rfl := Option.some.inj hu; exact ⟨[], by simp, rfl, fun k u x hu => by simp at hu⟩
  | cons r rs ih =>
    intro us hu
    simp only [aResL] at hu
    split at hu
    case h_2 => cases hu
    rename_i u us' h1 h2
    obtain rfl := Option.some.inj hu
    obtain ⟨vs, e1, e2, e3⟩ := ih us' h2
    obtain ⟨v, e4, e5⟩ : ∃ v, (match r with | .tmp t => (pure (tmps.getD t undef) : Sem Value) | .cell a t => do loadVar t (← asAddr (tmps.getD a undef))).run P W = .ok v W ∧ VR R φ W u v := by
      cases r with
      | tmp t => obtain rfl := Option.some.inj h1; exact ⟨_, rfl, hev t⟩
      | cell a t =>
        simp only [aRes1] at h1
        split at h1
        case h_2 => cases h1
        rename_i u' hl
        obtain rfl := Option.some.inj h1
        obtain ⟨y, g1, g2⟩ := aLoad_ok (P := P) ht h.sim (hev a) hl rfl
        refine ⟨y, ?_, g2⟩
        have hp : ∃ ad, tmps.getD a undef = .pointer (some ad) := by
          have hv := hev a
          generalize f.getD a .dead = w at hv hl
          generalize tmps.getD a undef = v at hv
          cases hv with
          | p h => exact ⟨_, rfl⟩
          | q h => exact ⟨_, rfl⟩
          | imm hi => cases hi with
            | ip => exact ⟨_, rfl⟩
            | _ => simp [aLoad] at hl; split at hl <;> cases hl
          | _ => simp [aLoad] at hl; split at hl <;> cases hl
        obtain ⟨ad, had⟩ := hp
        rw [had] at g1
        simp only [Instr.loadAt, Instr.sureAddr, Sem.run_bind, Sem.run_pure, Result.andThen_ok] at g1
        show (do loadVar t (← asAddr (tmps.getD a undef)) : Sem Value).run P W = _
        rw [had]
        simp only [asAddr, Sem.run_bind, Sem.run_pure, Result.andThen_ok]
        exact g1
    refine ⟨v :: vs, ?_, by simp [e2], fun k w x hw hx => ?_⟩
    · simp only [List.mapM_cons, Sem.run_bind, e4, Result.andThen_ok, e1, Sem.run_pure]
    · cases k with
      | zero => simp at hw hx; subst hw hx; exact e5
      | succ k => exact e3 k w x (by simpa using hw) (by simpa using hx)

theorem aRes_ok {P : Program} {tt : List TE} (ht : TTok P tt) {F0 : Nat → Nat → Prop} {W0 : World} {R : Nat → Prop} {φ : Phi} {σ : St} {f : List AV} {tmps : Array Value} {W : World} (h : Rel F0 W0 R φ σ f tmps W) {fn : Func} {u : AV} (hu : aRes tt fn.results.toList f σ = some u) :
    ∃ v, (results fn tmps).run P W = .ok v W ∧ VR R φ W u v := by
  unfold aRes at hu
  cases hl : aResL tt f σ fn.results.toList with
  | none => simp [hl] at hu
  | some us =>
    obtain ⟨vs, e1, e2, e3⟩ := aResL_ok (P := P) ht h _ us hl
    have hrun : (fn.results.mapM (fun (r : ResultVar) => match r with | .tmp t => (pure (tmps.getD t undef) : Sem Value) | .cell a t => do loadVar t (← asAddr (tmps.getD a undef)))).run P W = .ok vs.toArray W := by
      rw [Array.mapM_eq_mapM_toList, Sem.run_map, e1]; rfl
    have key : ∀ v, (if h : vs.toArray.size = 1 then vs.toArray[0] else Value.tuple vs.toArray) = v → (results fn tmps).run P W = .ok v W := by
      intro v hv
      unfold results
      simp only [Sem.run_bind, Sem.run_pure]
      refine (congrArg (fun r => Result.andThen r _) hrun).trans ?_
      simp only [Result.andThen_ok]
      rw [hv]
    simp only [hl] at hu
    split at hu
    · rename_i us' u' hs
      obtain rfl := Option.some.inj hu
      obtain rfl := Option.some.inj hs
      match vs, e2, e3, key with
      | [v], _, e3, key => exact ⟨v, key v rfl, e3 0 _ v rfl rfl⟩
    · rename_i us' hne hs
      obtain rfl := Option.some.inj hu
      obtain rfl := Option.some.inj hs
      have hlen : ¬ vs.toArray.size = 1 := by
        intro h1
        match us, e2, hne with
        | [u'], _, hne => exact hne u' rfl
        | [], e2, _ => simp at h1 e2; omega
        | _ :: _ :: _, e2, _ => simp at h1 e2; omega
      exact ⟨.tuple vs.toArray, key _ (by rw [dif_neg hlen]), .t e2 e3⟩
    · rename_i hs; cases hs

/-- A function's run, with what goes on behind it. -/
def runFn (X : Cx) (fn : Func) (c : Code) : Run := fun args σ Y K =>
  normL (args ++ List.replicate (fn.ntmps - args.length) .dead) fun f => runC X Y σ.length c f σ fun e f σ' => match e with
    | .exit _ => none
    | _ => match aRes X.tt fn.results.toList f σ' with
      | some u => forceK u fun u => normL σ' fun σ' => K u σ'
      | none => none

def bodyOf (fn : Func) : Code := fn.body.getD .skip

theorem Keep.putDef {W : World} {D : Nat} {x : Option (List Deferred)} (h : W.heap[D]? = some (.deferred x)) (o : Obj) : Keep (fun b _ => b = D) W (W.putObj D o) where
  os := rfl
  tape := rfl
  output := rfl
  size := by simp
  obj b' _ hn := World.putObj_heap_other fun e => hn 0 e
  cells b' c T fr hc := by
    have hne : b' ≠ D := fun e => by subst e; rw [h] at hc; cases hc
    exact ⟨c, by rw [World.putObj_heap_other hne]; exact hc, rfl, fun _ _ => rfl⟩
  loops b' r' hr := by
    have hne : b' ≠ D := fun e => by subst e; rw [h] at hr; cases hr
    exact ⟨r'.state, r'.pending, by rw [World.putObj_heap_other hne]; exact hr⟩

/-- What is known lives on where a mark is taken. -/
theorem leaves_ok {P : Program} {fn : Func} {tmps : Array Value} {post : Ending → World → Prop} {E : Ent} {R : Nat → Prop} {φ : Phi} {σ : St} {f : List AV} (hl : f.length = tmps.size)
    (hfin : ∀ w, Turn E.R E.φ E.σ E.W R φ σ w → (∀ (t : Nat) (u : AV), f[t]? = some u → VR R φ w u (tmps.getD t undef)) → ∃ v, (results fn tmps).run P w = .ok v w ∧ post (.returned v) w) :
    ∀ (Ds : List Nat) (w : World), Turn E.R E.φ E.σ E.W R φ σ w → (∀ (t : Nat) (u : AV), f[t]? = some u → VR R φ w u (tmps.getD t undef)) → Ds.Nodup → (∀ D ∈ Ds, E.W.heap.size ≤ D ∧ w.heap[D]? = some (.deferred (some []))) →
    LeavesInM Fence.wide 0 P fn tmps post (Ds.map fun D => ({ target := .collected D, args := #[] } : Deferred)) .returning w := by
  intro Ds
  induction Ds with
  | nil => intro w hT hf _ _; exact hfin w hT hf
  | cons D Ds ih =>
    intro w hT hf hnd hD
    obtain ⟨h1, h2⟩ := hD D (List.mem_cons_self)
    have hk := Keep.putDef h2 (.deferred none)
    have hcalm : Calm R w (w.putObj D (.deferred none)) := fun b k x _ hx => by
      have hne : b ≠ D := fun e => by subst e; obtain ⟨c, T, fr, hc⟩ := block_of_cell hx; rw [h2] at hc; cases hc
      exact hk.cell hne hx
    have hnot : ∀ b k, Owned φ σ b k → b ≠ D := fun b k hw e => by
      subst e
      rcases hT.sim.owned hw with ⟨c, T, fr, h3⟩ | ⟨r, h3⟩ <;> rw [h2] at h3 <;> cases h3
    refine ⟨by simp, .inl ⟨D, _, rfl, run_takeDeferred h2, ?_⟩⟩
    have hnd := List.nodup_cons.1 hnd
    refine ih _ ⟨hT.hR, hT.hR', hT.ext, ⟨fun l B e => (hT.sim.blk l B e).kept' hk (fun _ h => h) hcalm (fun b k hw => hnot b k ⟨l, B, e, hw⟩) (Ext.refl _) (fun h => h), hT.sim.sep, hT.sim.ro, hT.sim.old.keep hk.size hcalm, hT.sim.dom⟩, hT.reg, hT.keep.trans hk fun b k e => .inr (by rw [e]; exact h1)⟩
      (fun t u hu => (hf t u hu).mono (fun _ h => h) hcalm hk.room_le (Ext.refl _)) hnd.2 fun D' hD' => ⟨(hD D' (List.mem_cons_of_mem _ hD')).1, ?_⟩
    rw [World.putObj_heap_other (fun e => by subst e; exact hnd.1 hD')]
    exact (hD D' (List.mem_cons_of_mem _ hD')).2

/-- A function's run. -/
theorem runFn_ok {P : Program} {X : Cx} (hX : CxOk P X) {g : Nat} {fn : Func} (hg : P.funcs[g]? = some fn) (hnm : (fn.name == "runtime.NumGoroutine") = false) {c : Code} (hc : fn.body = some c) : RunOk P g (runFn X fn c) := by
  refine ⟨⟨fn, hg, hnm, by rw [hc]; rfl⟩, fun {args σ Y K} hr {R φ W} hs hY {vals} hv => ?_⟩
  refine callsIn_wide (n := 0).1 (callsIn_of_wp_marks hg hc trivial ?_)
  unfold runFn at hr
  rw [normL_eq] at hr
  have hH : Holds ⟨R, φ, σ, W⟩ (args ++ List.replicate (fn.ntmps - args.length) .dead) σ { tmps := vals.toArray ++ Array.replicate (fn.ntmps - vals.toArray.size) undef, defers := [] } W := by
    refine ⟨R, φ, Turn.refl hs, by simp [hv.1], fun t w hw => ?_, Marks.nil _ _⟩
    rw [List.getElem?_append] at hw
    split at hw
    · rename_i hlt
      obtain ⟨x, hx⟩ := vs_get hv.1 hw
      have : (vals.toArray ++ Array.replicate (fn.ntmps - vals.toArray.size) undef).getD t undef = x := by
        rw [Array.getD_eq_getD_getElem?, Array.getElem?_append_left (by simp; have := hv.1; omega)]
        simp [hx]
      rw [this]; exact hv.2 t w x hw hx
    · rw [List.getElem?_replicate] at hw
      split at hw
      · obtain rfl := Option.some.inj hw; exact .dead _
      · cases hw
  refine runC_ok hX c (E := ⟨R, φ, σ, W⟩) (r := none) hs hY (fun l h => by cases h) (Nat.le_refl _) hH hr fun e f' σ1 a' w' h' hk => ?_
  obtain ⟨R', φ', hT, hl, hf, Ds, hds, hnd, hD⟩ := h'
  have fin : tr (match aRes X.tt fn.results.toList f' σ1 with | some u => forceK u fun u => normL σ1 fun σ1 => K u σ1 | none => none) → LeavesInM Fence.wide 0 P fn a'.tmps (fun e W' => ∃ u σ' v R' φ', e = .returned v ∧ Turn R φ σ W R' φ' σ' W' ∧ VR R' φ' W' u v ∧ tr (K u σ')) a'.defers .returning w' := by
    intro hk
    split at hk
    case h_2 => exact hk.elim
    rename_i u1 hu
    rw [forceK_eq, normL_eq] at hk
    rw [hds]
    refine leaves_ok (E := ⟨R, φ, σ, W⟩) hl (fun w hT hf => ?_) Ds w' hT hf hnd hD
    obtain ⟨v, e1, e2⟩ := aRes_ok (P := P) hX.tt (localRel hT.sim hl hf) hu
    exact ⟨v, e1, u1, σ1, v, R', φ', rfl, hT, e2, hk⟩
  cases e with
  | normal => exact fin hk
  | ret => exact fin hk
  | exit id => exact hk.elim

/-- What is to come: no less than this. -/
def Fin (nb : Nat) (u : AV) (σ : St) : AV → St → Option Prop := fun u' σ' => some (Cov nb [u] σ [u'] σ')
/-- A function's run, by what comes of it. -/
def runF (X : Cx) (fn : Func) (args : List AV) (σ : St) (u : AV) (σ' : St) : Prop := tr (runFn X fn (bodyOf fn) args σ (fun _ => none) (Fin σ.length u σ'))

theorem runF_ok {P : Program} {X : Cx} (hX : CxOk P X) {g : Nat} {fn : Func} (hg : P.funcs[g]? = some fn) (hnm : (fn.name == "runtime.NumGoroutine") = false) (hc : fn.body = some (bodyOf fn)) {args : List AV} {σ σ' : St} {u : AV} (hr : runF X fn args σ u σ')
    {R : Nat → Prop} {φ : Phi} {W : World} (hs : Sim R φ σ W) {vals : List Value} (hv : VRs R φ W args vals) : Calls P g vals.toArray W fun e W' => ∃ v R' φ', e = .returned v ∧ Turn R φ σ W R' φ' σ' W' ∧ VR R' φ' W' u v := by
  refine ((runFn_ok hX hg hnm hc).ok hr hs (YOk.none _ _ _ _ _) hv).mono ?_
  rintro e W' ⟨u1, σ1, v, R1, φ1, rfl, hT, hv1, hcov⟩
  have hh : Holds ⟨R, φ, σ, W⟩ [u1] σ1 ⟨#[v], []⟩ W' := ⟨R1, φ1, hT, rfl, fun t w hw => by
    cases t with
    | zero => simp at hw; subst hw; exact hv1
    | succ t => simp at hw, Marks.nil _ _⟩
  obtain ⟨R2, φ2, hT2, _, hf2, _⟩ := Cov.holds hcov (E := ⟨R, φ, σ, W⟩) (Nat.le_refl _) (fun l h => hs.dom l h) hh
  exact ⟨v, R2, φ2, rfl, hT2, by simpa using hf2 0 u rfl⟩

/-- Values that hang on no root. -/
def closed : AV → Bool
  | .v x => scal x
  | .i _ _ _ => true
  | .z => true
  | .a cs => cs.all pureCell
  | .t cs => cs.all fun u => match u with | .a cs => cs.all pureCell | u => pureCell u
  | _ => false

theorem closed_ok {R : Nat → Prop} {φ φ' : Phi} {W : World} {u : AV} {v : Value} (hc : closed u = true) (h : VR R φ W u v) : VR R φ' W u v := by
  have pc : ∀ {u : AV} {v : Value}, pureCell u = true → VR R φ W u v → VR R φ' W u v := fun hp h => .imm (pureCell_ok h hp).1
  have ag : ∀ {cs : List AV} {v : Value}, cs.all pureCell = true → VR R φ W (.a cs) v → VR R φ' W (.a cs) v := by
    intro cs v hp h
    obtain ⟨vs, rfl, hl, hr⟩ := h.agg
    exact .a hl fun k w x hw hx => pc (List.all_eq_true.1 hp w (List.mem_of_getElem? hw)) (hr k w x hw hx)
  cases u with
  | v x => exact pc hc h
  | i sz n get => exact pc rfl h
  | z => exact pc rfl h
  | a cs => exact ag hc h
  | t cs =>
    obtain ⟨vs, rfl, hl, hr⟩ := h.tup
    refine .t hl fun k w x hw hx => ?_
    have := List.all_eq_true.1 hc w (List.mem_of_getElem? hw)
    have hv := hr k w x hw hx
    cases w with
    | a cs => exact ag this hv
    | _ => exact pc this hv
  | _ => cases hc

/-- A contract of a function that only reckons: its values hang on no root, and it is told from no root. -/
def pureCtr (G : List AV → Option (Bool × AV)) : Ctr := fun args σ => match G args with | some (c, u) => some (c, u, σ) | none => none
theorem pureCtr_pure (G : List AV → Option (Bool × AV)) : CtrPure (pureCtr G) := by
  intro args σ c u σ' h
  unfold pureCtr at h ⊢
  cases hG : G args with
  | none => simp [hG] at h
  | some p =>
    obtain ⟨c0, u0⟩ := p
    simp only [hG, Option.some.injEq, Prod.mk.injEq] at h
    obtain ⟨rfl, rfl, rfl⟩ := h
    exact ⟨rfl, fun _ => rfl⟩

/-- A run from no root, for whoever calls. -/
theorem Turn.closed {R : Nat → Prop} {φ φ' : Phi} {σ σ' : St} {W W' : World} {R' : Nat → Prop} (hs : Sim R φ σ W) (h : Turn R (fun _ => none) [] W R' φ' σ' W') : Turn R φ σ W R' φ σ W' := by
  have hno : ∀ b k, ¬ Owned (fun _ => none) [] b k := fun b k ⟨l, B, e, _⟩ => by simp at e
  have hk : Keep (fun _ _ => False) W W' := h.keep.mono fun b k hw => hno b k hw
  exact ⟨h.hR, fun b hb => by
    rcases h.hR' b hb with h1 | h1 | ⟨k, h1⟩
    · exact .inl h1
    · exact .inr (.inl h1)
    · exact (hno b k h1).elim, Ext.refl _, ⟨fun l B e => (hs.blk l B e).kept hk h.hR (fun _ _ h => h.elim) (fun _ _ _ h => h.elim) (Ext.refl _) (fun h => h), hs.sep, fun l B e b k hw hb => by
    rcases h.hR' b hb with h1 | h1 | ⟨k', h1⟩
    · exact hs.ro l B e b k hw h1
    · have := (hs.blk l B e).owned hw; omega
    · exact hno b k' h1, h.sim.old, hs.dom⟩, fun _ _ h => .inl h, hk.mono fun _ _ h => h.elim⟩

theorem sim_nil {R : Nat → Prop} {W : World} (h : Old R W) : Sim R (fun _ => none) [] W := ⟨fun l B h => by simp at h, fun l l' B B' _ h => by simp at h, fun l B h => by simp at h, h, fun l _ => rfl⟩

theorem pureCtr_ok {P : Program} {X : Cx} (hX : CxOk P X) {g : Nat} {fn : Func} (hg : P.funcs[g]? = some fn) (hnm : (fn.name == "runtime.NumGoroutine") = false) (hc : fn.body = some (bodyOf fn)) {G : List AV → Option (Bool × AV)}
    (hG : ∀ args u, G args = some (true, u) → closed u = true ∧ args.all closed = true ∧ runF X fn args [] u []) : CtrOk P g (pureCtr G) := by
  refine ⟨⟨fn, hg, hnm, by rw [hc]; rfl⟩, ?_⟩
  intro args σ u σ' h R φ W hs vals hv
  unfold pureCtr at h
  split at h
  case h_2 => cases h
  rename_i c1 u1 hG1
  simp only [Option.some.injEq, Prod.mk.injEq] at h
  obtain ⟨rfl, rfl, rfl⟩ := h
  obtain ⟨hcl, hca, hrun⟩ := hG args u1 hG1
  refine (runF_ok hX hg hnm hc hrun (sim_nil hs.old) ⟨hv.1, fun k w x hw hx => closed_ok (List.all_eq_true.1 hca w (List.mem_of_getElem? hw)) (hv.2 k w x hw hx)⟩).mono ?_
  rintro e W' ⟨v, R', φ', rfl, hT, hv'⟩
  exact ⟨v, R', φ, rfl, hT.closed hs, closed_ok hcl hv'⟩

theorem leaf {p : Prop} (h : p) : tr (some p) := h
/-- The end, where the value is the one that is told. -/
theorem fin0 {u u' : AV} {σ' : St} (h : Fit [] σ' u u') : tr (Fin 0 u [] u' σ') := .mk [] List.nodup_nil ⟨h, trivial⟩ trivial rfl
/-- A test parts the way. -/
theorem br {b : Bool} {x y : Option Prop} (ht : b = true → tr x) (hf : b = false → tr y) : tr (cond b x y) := by
  cases b
  · exact hf rfl
  · exact ht rfl
/-- A condition is met. -/
theorem brt {b : Bool} {x y : Option Prop} (h : b = true) (ht : tr x) : tr (cond b x y) := by rw [h]; exact ht
theorem brf {b : Bool} {x y : Option Prop} (h : b = false) (ht : tr y) : tr (cond b x y) := by rw [h]; exact ht

abbrev i64 (n : Int) : AV := .v (.int .i64 n)
abbrev u64 (n : Int) : AV := .v (.int .u64 n)
abbrev boo (b : Bool) : AV := .v (.bool b)
/-- Arguments that are whole numbers. -/
def int1 (F : Int → Option (Bool × AV)) : List AV → Option (Bool × AV)
  | [.v (.int .i64 a)] => F a
  | _ => none
def int2 (F : Int → Int → Option (Bool × AV)) : List AV → Option (Bool × AV)
  | [.v (.int .i64 a), .v (.int .i64 b)] => F a b
  | _ => none
def int3 (F : Int → Int → Int → Option (Bool × AV)) : List AV → Option (Bool × AV)
  | [.v (.int .i64 a), .v (.int .i64 b), .v (.int .i64 c)] => F a b c
  | _ => none
theorem int1_some {F : Int → Option (Bool × AV)} {args : List AV} {u : Bool × AV} (h : int1 F args = some u) : ∃ a, args = [i64 a] ∧ F a = some u := by
  unfold int1 at h
  split at h
  · exact ⟨_, rfl, h⟩
  · cases h
theorem int2_some {F : Int → Int → Option (Bool × AV)} {args : List AV} {u : Bool × AV} (h : int2 F args = some u) : ∃ a b, args = [i64 a, i64 b] ∧ F a b = some u := by
  unfold int2 at h
  split at h
  · exact ⟨_, _, rfl, h⟩
  · cases h
theorem int3_some {F : Int → Int → Int → Option (Bool × AV)} {args : List AV} {u : Bool × AV} (h : int3 F args = some u) : ∃ a b c, args = [i64 a, i64 b, i64 c] ∧ F a b c = some u := by
  unfold int3 at h
  split at h
  · exact ⟨_, _, _, rfl, h⟩
  · cases h
end
end Go.Proofs.YtaneamfnjhiigaaDoor.E
