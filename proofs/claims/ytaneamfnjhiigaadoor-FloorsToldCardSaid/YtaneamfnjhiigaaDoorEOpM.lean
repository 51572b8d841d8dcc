/- The engine, part 15: one operation. -/
import Derived.Test.YtaneamfnjhiigaaDoorEOpL
namespace Go.Proofs.YtaneamfnjhiigaaDoor.E
open Go
set_option linter.unusedSimpArgs false
set_option linter.unusedVariables false
noncomputable section

def sameOp : Operand → Operand → Bool
  | .tmp i, .tmp j => Nat.beq i j
  | .const (.int k a), .const (.int k' b) => sameKind k k' && decide (a = b)
  | _, _ => false
theorem sameOp_eq {x y : Operand} (h : sameOp x y = true) : x = y := by
  unfold sameOp at h
  split at h
  · rw [Nat.eq_of_beq_eq_true h]
  · simp only [Bool.and_eq_true, decide_eq_true_eq] at h
    rw [sameKind_eq h.1, h.2]
  · cases h

/-- The bounds [:0:0]. -/
def isZO (lo : Option Operand) (h m : Operand) : Bool := match lo, h, m with
  | none, .const (.int _ (.ofNat 0)), .const (.int _ (.ofNat 0)) => true
  | _, _, _ => false
theorem isZO_eq {lo : Option Operand} {h m : Operand} (hz : isZO lo h m = true) : lo = none ∧ ∃ k k', h = .const (.int k 0) ∧ m = .const (.int k' 0) := by
  unfold isZO at hz
  split at hz
  · exact ⟨rfl, _, _, rfl, rfl⟩
  · cases hz
def evP (f : List AV) (ps : Array (Nat × Operand)) : List (Nat × AV) := ps.toList.map fun p => (p.1, ev f p.2)
def evO (f : List AV) (x : Option Operand) : Option AV := x.map (ev f)
def keep2 (σ : St) (r : Option (Bool × AV)) : Option (Bool × AV × St) := match r with | some (c, u) => some (c, u, σ) | none => none

/-- An operation that is no call of a function, no choice: a condition, its value, and what is known behind it. -/
def aOp (tt : List TE) (op : Op) (f : List AV) (σ : St) : Option (Bool × AV × St) :=
  match op with
  | .move x => some (true, ev f x, σ)
  | .assign x => some (true, ev f x, σ)
  | .alloc t => match aAlloc tt t σ with | some (u, σ') => some (true, u, σ') | none => none
  | .box _ x => match aBox (ev f x) σ with | some (u, σ') => some (true, u, σ') | none => none
  | .build t ps => keep2 σ (aBuild tt t (evP f ps))
  | .buildSlice t n ps => aBuildSlice tt t n (evP f ps) σ
  | .load t x => keep2 σ (aLoad tt t (ev f x) σ)
  | .store t x y => match aStore tt t (ev f x) (ev f y) σ with | some (c, σ') => some (c, .dead, σ') | none => none
  | .nilCheck x => keep2 σ (aNilCheck (ev f x))
  | .binOp op t x y _ => keep2 σ (aBin tt op t (ev f x) (ev f y))
  | .unOp op _ x => keep2 σ (aUn op (ev f x))
  | .convert s d x => match aConv tt s d (ev f x) with
    | some r => keep2 σ (some r)
    | none => keep2 σ (aConvS tt s d (ev f x) σ)
  | .makeFunc fn us cs => some (true, .f fn (us.toList.map (ev f)) (cs.toList.map (ev f)), σ)
  | .makeSlice t l c => match sameOp l c with | true => aMake tt t (ev f l) σ | false => none
  | .slice t x lo hi mx => match mx, hi with
    | some _, none => none
    | some m, some h => match isZO lo h m with
      | true => keep2 σ (aSliceZ tt t (ev f x))
      | false => keep2 σ (aSlice tt t (ev f x) (evO f lo) (evO f hi) (evO f mx))
    | _, _ => keep2 σ (aSlice tt t (ev f x) (evO f lo) (evO f hi) (evO f mx))
  | .fieldAddr s x k => keep2 σ (aFieldAddr tt s (ev f x) k)
  | .field t x k => keep2 σ (aField tt t (ev f x) k)
  | .indexAddr t x i => keep2 σ (aIndexAddr tt t (ev f x) (ev f i))
  | .index t x i => keep2 σ (aIndex tt t (ev f x) (ev f i))
  | .extract x k => keep2 σ (aExtract (ev f x) k)
  | .call c => match c.callee with
    | .builtin .len => match c.argTypes.toList, c.args.toList with
      | [t], [x] => keep2 σ (aLen tt t (ev f x))
      | _, _ => none
    | .builtin .cap => match c.argTypes.toList, c.args.toList with
      | [t], [x] => keep2 σ (aCap tt t (ev f x))
      | _, _ => none
    | .builtin .append => match c.argTypes.toList, c.args.toList with
      | [t, t'], [x, y] => match Nat.beq t t' with
        | true => aApp tt t (ev f x) (ev f y) σ
        | false => aAppendZ tt t t' (ev f x) (ev f y) σ
      | _, _ => none
    | .builtin .max => keep2 σ (aMM true (c.args.toList.map (ev f)))
    | .builtin .min => keep2 σ (aMM false (c.args.toList.map (ev f)))
    | _ => none
  | _ => none

def Yields (nx : Next) (v : Value) : Prop := nx = .value v ∨ (nx = .skip ∧ v = undef)

theorem run_v {P : Program} {W W' : World} {s : Sem Value} {y : Value} (h : s.run P W = .ok y W') : (do pure (Next.value (← s)) : Sem Next).run P W = .ok (.value y) W' := by
  simp only [Sem.run_bind, h, Result.andThen_ok, Sem.run_pure]

theorem evP_rel {F0 : Nat → Nat → Prop} {W0 : World} {R : Nat → Prop} {φ : Phi} {σ : St} {f : List AV} {tmps : Array Value} {W : World} (h : Rel F0 W0 R φ σ f tmps W) (ds : List Deferred) (ps : Array (Nat × Operand)) :
    (evP f ps).length = (ps.toList.map fun p => (p.1, (Act.mk tmps ds).eval p.2)).length ∧ ∀ (k : Nat) (p : Nat × AV) (q : Nat × Value), (evP f ps)[k]? = some p → (ps.toList.map fun p => (p.1, (Act.mk tmps ds).eval p.2))[k]? = some q → p.1 = q.1 ∧ VR R φ W p.2 q.2 := by
  refine ⟨by simp [evP], fun k p q hp hq => ?_⟩
  obtain ⟨x, hx, rfl⟩ := getElem?_map_some hp
  obtain ⟨y, hy, rfl⟩ := getElem?_map_some hq
  rw [hx] at hy
  obtain rfl := Option.some.inj hy
  exact ⟨rfl, ev_ok h ds _⟩

theorem map_rel {F0 : Nat → Nat → Prop} {W0 : World} {R : Nat → Prop} {φ : Phi} {σ : St} {f : List AV} {tmps : Array Value} {W : World} (h : Rel F0 W0 R φ σ f tmps W) (ds : List Deferred) (xs : List Operand) :
    (xs.map (ev f)).length = (xs.map (Act.mk tmps ds).eval).length ∧ ∀ (k : Nat) (u : AV) (x : Value), (xs.map (ev f))[k]? = some u → (xs.map (Act.mk tmps ds).eval)[k]? = some x → VR R φ W u x := by
  refine ⟨by simp, fun k u x hu hx => ?_⟩
  obtain ⟨y, hy, rfl⟩ := getElem?_map_some hu
  obtain ⟨z, hz, rfl⟩ := getElem?_map_some hx
  rw [hy] at hz
  obtain rfl := Option.some.inj hz
  exact ev_ok h ds _

theorem aMM_ok {P : Program} {R : Nat → Prop} {φ : Phi} {W : World} {gt : Bool} {us : List AV} {vs : List Value} (hl : us.length = vs.length) (hr : ∀ (k : Nat) (u : AV) (x : Value), us[k]? = some u → vs[k]? = some x → VR R φ W u x)
    {c : Bool} {u : AV} (ha : aMM gt us = some (c, u)) (ats : Array TypeId) (ty : TypeId) : ∃ y, ((match gt with | true => Builtin.max_ ats ty vs.toArray | false => Builtin.min_ ats ty vs.toArray)).run P W = .ok y W ∧ VR R φ W u y := by
  unfold aMM at ha
  split at ha
  · rename_i k a k' b
    obtain ⟨rfl, rfl⟩ := Prod.mk.inj (Option.some.inj ha)
    match vs, hl, hr with
    | [x, y], _, hr =>
      obtain rfl := (hr 0 _ x rfl rfl).val
      obtain rfl := (hr 1 _ y rfl rfl).val
      refine ⟨.int k (mm gt a b), ?_, .imm (.v _)⟩
      cases gt <;> simp [Builtin.max_, Builtin.min_, Builtin.max2, Builtin.min2, mm]
  · rename_i k a k' b k'' d
    obtain ⟨rfl, rfl⟩ := Prod.mk.inj (Option.some.inj ha)
    match vs, hl, hr with
    | [x, y, z], _, hr =>
      obtain rfl := (hr 0 _ x rfl rfl).val
      obtain rfl := (hr 1 _ y rfl rfl).val
      obtain rfl := (hr 2 _ z rfl rfl).val
      refine ⟨.int k (mm gt (mm gt a b) d), ?_, .imm (.v _)⟩
      cases gt <;> simp [Builtin.max_, Builtin.min_, Builtin.max2, Builtin.min2, mm] <;> rfl
  · cases ha

theorem opt_rel {F0 : Nat → Nat → Prop} {W0 : World} {R : Nat → Prop} {φ : Phi} {σ : St} {f : List AV} {tmps : Array Value} {W : World} (h : Rel F0 W0 R φ σ f tmps W) (ds : List Deferred) (x : Option Operand) :
    (∀ u, evO f x = some u → ∃ y, x.map (Act.mk tmps ds).eval = some y ∧ VR R φ W u y) ∧ (evO f x = none → x.map (Act.mk tmps ds).eval = none) := by
  cases x with
  | none => exact ⟨fun u hu => (by cases hu), fun _ => rfl⟩
  | some x => exact ⟨fun u hu => (by obtain rfl := Option.some.inj hu; exact ⟨_, rfl, ev_ok h ds x⟩), fun hu => (by cases hu)⟩

theorem aOp_ok {P : Program} {tt : List TE} (ht : TTok P tt) {F0 : Nat → Nat → Prop} {W0 : World} {R : Nat → Prop} {φ : Phi} {σ : St} {f : List AV} {tmps : Array Value} {W : World} (h : Rel F0 W0 R φ σ f tmps W) (ds : List Deferred)
    {o : Oper} {c : Bool} {u : AV} {σ' : St} (ha : aOp tt o.op f σ = some (c, u, σ')) (hc : c = true) :
    ∃ nx v W' φ', (execOp (Act.mk tmps ds).eval o).run P W = .ok nx W' ∧ Yields nx v ∧ Ext φ φ' ∧ Rel F0 W0 R φ' σ' f tmps W' ∧ VR R φ' W' u v := by
  have keepV : ∀ {s : Sem Value} {r : Option (Bool × AV)}, keep2 σ r = some (c, u, σ') → (∀ c u, r = some (c, u) → c = true → ∃ y, s.run P W = .ok y W ∧ VR R φ W u y) →
      ∃ nx v W' φ', (do pure (Next.value (← s)) : Sem Next).run P W = .ok nx W' ∧ Yields nx v ∧ Ext φ φ' ∧ Rel F0 W0 R φ' σ' f tmps W' ∧ VR R φ' W' u v := by
    intro s r hr hs
    cases r with
    | none => cases hr
    | some p =>
      obtain ⟨c1, u1⟩ := p
      simp only [keep2, Option.some.injEq, Prod.mk.injEq] at hr
      obtain ⟨rfl, rfl, rfl⟩ := hr
      obtain ⟨y, h1, h2⟩ := hs _ _ rfl hc
      exact ⟨_, y, W, φ, run_v h1, .inl rfl, Ext.refl _, h, h2⟩
  have same : ∀ {x : Operand}, some (true, ev f x, σ) = some (c, u, σ') → ∃ v W' φ', (Pure.pure (Next.value ((Act.mk tmps ds).eval x)) : Sem Next).run P W = .ok (.value v) W' ∧ Ext φ φ' ∧ Rel F0 W0 R φ' σ' f tmps W' ∧ VR R φ' W' u v := by
    intro x hx
    simp only [Option.some.injEq, Prod.mk.injEq] at hx
    obtain ⟨rfl, rfl, rfl⟩ := hx
    exact ⟨_, W, φ, rfl, Ext.refl _, h, ev_ok h ds x⟩
  have ev' := fun x => ev_ok h ds x
  obtain ⟨dst, op, type, pos, after, guard⟩ := o
  simp only at ha
  cases op <;> simp only [aOp] at ha <;> simp only [execOp] <;> try (cases ha; done)
  case move x => obtain ⟨v, W', φ', h1, h2⟩ := same ha; exact ⟨_, v, W', φ', h1, .inl rfl, h2⟩
  case assign x => obtain ⟨v, W', φ', h1, h2⟩ := same ha; exact ⟨_, v, W', φ', h1, .inl rfl, h2⟩
  case alloc t =>
    split at ha
    case h_2 => cases ha
    rename_i u1 s1 h1
    simp only [Option.some.injEq, Prod.mk.injEq] at ha
    obtain ⟨rfl, rfl, rfl⟩ := ha
    obtain ⟨y, W', φ', r1, rx, r2, r3⟩ := aAlloc_ok (P := P) ht h h1
    exact ⟨_, y, W', φ', run_v r1, .inl rfl, rx, r2, r3⟩
  case box t x =>
    split at ha
    case h_2 => cases ha
    rename_i u1 s1 h1
    simp only [Option.some.injEq, Prod.mk.injEq] at ha
    obtain ⟨rfl, rfl, rfl⟩ := ha
    obtain ⟨y, W', φ', r1, rx, r2, r3⟩ := aBox_ok (P := P) h (ev' x) h1 t
    exact ⟨_, y, W', φ', run_v r1, .inl rfl, rx, r2, r3⟩
  case build t ps =>
    refine keepV ha fun c u hr hc => ?_
    obtain ⟨p1, p2⟩ := evP_rel h ds ps
    have := aBuild_ok (P := P) ht p1 p2 hr hc
    have e : (ps.map fun x => match x with | (i, x) => (i, (Act.mk tmps ds).eval x)) = (ps.toList.map fun p => (p.1, (Act.mk tmps ds).eval p.2)).toArray := by rw [← Array.toList_map]
    rw [e]; exact this
  case buildSlice t n ps =>
    obtain ⟨p1, p2⟩ := evP_rel h ds ps
    obtain ⟨y, W', φ', r1, rx, r2, r3⟩ := aBuildSlice_ok (P := P) ht h p1 p2 ha
    have e : (ps.map fun x => match x with | (i, x) => (i, (Act.mk tmps ds).eval x)) = (ps.toList.map fun p => (p.1, (Act.mk tmps ds).eval p.2)).toArray := by rw [← Array.toList_map]
    rw [e]; exact ⟨_, y, W', φ', run_v r1, .inl rfl, rx, r2, r3⟩
  case load t x => exact keepV ha fun c u hr hc => aLoad_ok ht h.sim (ev' x) hr hc
  case store t x y =>
    split at ha
    case h_2 => cases ha
    rename_i c1 s1 h1
    simp only [Option.some.injEq, Prod.mk.injEq] at ha
    obtain ⟨rfl, rfl, rfl⟩ := ha
    obtain ⟨W', r1, r2⟩ := aStore_ok (P := P) ht h (ev' x) (ev' y) h1 hc
    exact ⟨.skip, undef, W', φ, by simp only [Sem.run_bind, r1, Result.andThen_ok, Sem.run_pure], .inr ⟨rfl, rfl⟩, Ext.refl _, r2, .dead _⟩
  case nilCheck x =>
    have hx := ev' x
    generalize (Act.mk tmps ds).eval x = v at hx ⊢
    generalize ev f x = w at hx ha
    cases w <;> simp only [aNilCheck, keep2] at ha <;> try (cases ha; done)
    case p l off =>
      simp only [Option.some.injEq, Prod.mk.injEq] at ha
      obtain ⟨rfl, rfl, rfl⟩ := ha
      cases hx with
      | imm hi => cases hi
      | p hφ => exact ⟨_, _, W, φ, rfl, .inl rfl, Ext.refl _, h, .p hφ⟩
    case q l sz i j =>
      simp only [Option.some.injEq, Prod.mk.injEq] at ha
      obtain ⟨rfl, rfl, rfl⟩ := ha
      cases hx with
      | imm hi => cases hi
      | q hφ => exact ⟨_, _, W, φ, rfl, .inl rfl, Ext.refl _, h, .q hφ⟩
    case ip cs j =>
      simp only [Option.some.injEq, Prod.mk.injEq] at ha
      obtain ⟨rfl, rfl, rfl⟩ := ha
      cases hx with
      | imm hi => cases hi with
        | ip xs hb hc' hv => exact ⟨_, _, W, φ, rfl, .inl rfl, Ext.refl _, h, .imm (.ip xs hb hc' hv)⟩
    case f fn us cs =>
      cases fn <;> simp only at ha <;> try (cases ha; done)
      rename_i g
      simp only [Option.some.injEq, Prod.mk.injEq] at ha
      obtain ⟨rfl, rfl, rfl⟩ := ha
      cases hx with
      | imm hi => cases hi
      | f h1 h2 h3 h4 => exact ⟨_, _, W, φ, rfl, .inl rfl, Ext.refl _, h, .f h1 h2 h3 h4⟩
  case binOp op t x y t' => exact keepV ha fun c u hr hc => aBin_ok ht (ev' x) (ev' y) hr hc x y
  case unOp op t x => exact keepV ha fun c u hr hc => aUn_ok (ev' x) hr
  case convert s d x =>
    split at ha
    · rename_i r hr0
      exact keepV ha fun c u hr hc => aConv_ok ht (ev' x) (hr0.trans hr)
    · exact keepV ha fun c u hr hc => aConvS_ok ht h.sim (ev' x) hr hc
  case makeFunc fn us cs =>
    simp only [Option.some.injEq, Prod.mk.injEq] at ha
    obtain ⟨rfl, rfl, rfl⟩ := ha
    obtain ⟨a1, a2⟩ := map_rel h ds us.toList
    obtain ⟨b1, b2⟩ := map_rel h ds cs.toList
    refine ⟨_, _, W, φ, rfl, .inl rfl, Ext.refl _, h, ?_⟩
    have := VR.f (fn := fn) a1 a2 b1 b2
    have e1 : ∀ zs : Array Operand, zs.map (Act.mk tmps ds).eval = (zs.toList.map (Act.mk tmps ds).eval).toArray := fun zs => by rw [← Array.toList_map]
    rw [e1 us, e1 cs]; exact this
  case makeSlice t l c' =>
    cases hs : sameOp l c' with
    | false => simp [hs] at ha
    | true =>
      obtain rfl := sameOp_eq hs
      simp only [hs] at ha
      obtain ⟨y, W', φ', r1, rx, r2, r3⟩ := aMake_ok (P := P) ht h (ev' l) ha hc
      exact ⟨_, y, W', φ', run_v r1, .inl rfl, rx, r2, r3⟩
  case slice t x lo hi mx =>
    obtain ⟨l1, l2⟩ := opt_rel h ds lo
    obtain ⟨h1, h2⟩ := opt_rel h ds hi
    obtain ⟨m1, m2⟩ := opt_rel h ds mx
    split at ha
    · cases ha
    · rename_i m h'
      split at ha
      · rename_i hz
        obtain ⟨rfl, k, k', rfl, rfl⟩ := isZO_eq hz
        exact keepV ha fun c u hr hc => aSliceZ_ok ht (ev' x) hr
      · exact keepV ha fun c u hr hc => aSlice_ok ht (ev' x) l1 l2 h1 h2 m1 m2 (fun _ hh => by cases hh) hr hc
    · rename_i hne _
      refine keepV ha fun c u hr hc => aSlice_ok ht (ev' x) l1 l2 h1 h2 m1 m2 (fun hm hh => ?_) hr hc
      cases mx with
      | none => exact hm rfl
      | some m => cases hi with
        | none => exact hne m rfl rfl
        | some _ => cases hh
  case fieldAddr s x k => exact keepV ha fun c u hr hc => aFieldAddr_ok ht (ev' x) hr
  case field t x k => exact keepV ha fun c u hr hc => aField_ok ht (ev' x) hr
  case indexAddr t x i => exact keepV ha fun c u hr hc => aIndexAddr_ok ht (ev' x) (ev' i) hr hc
  case index t x i => exact keepV ha fun c u hr hc => aIndex_ok ht (ev' x) (ev' i) hr hc
  case extract x k => exact keepV ha fun c u hr hc => aExtract_ok (ev' x) hr
  case call cl =>
    have hargs : cl.args.map (Act.mk tmps ds).eval = (cl.args.toList.map (Act.mk tmps ds).eval).toArray := by rw [← Array.toList_map]
    have res : ∀ b, cl.callee = .builtin b → (do let d ← resolve (Act.mk tmps ds).eval cl type; invoke d.target d.args : Sem Next) = builtin b cl.argTypes type (cl.args.map fun | .const _ => true | _ => false) (cl.args.toList.map (Act.mk tmps ds).eval).toArray := by
      intro b hb
      unfold resolve
      rw [hb, hargs]
      rfl
    split at ha
    · rename_i hcal
      rw [res _ hcal]
      split at ha
      case h_2 => cases ha
      rename_i t x ht' hx'
      rw [hx']
      have e : cl.argTypes = #[t] := by rw [← ht']
      rw [e]
      simp only [List.map_cons, List.map_nil]
      exact keepV ha fun c u hr hc => aLen_ok ht (ev' x) hr
    · rename_i hcal
      rw [res _ hcal]
      split at ha
      case h_2 => cases ha
      rename_i t x ht' hx'
      rw [hx']
      have e : cl.argTypes = #[t] := by rw [← ht']
      rw [e]
      simp only [List.map_cons, List.map_nil]
      exact keepV ha fun c u hr hc => aCap_ok ht (ev' x) hr
    · rename_i hcal
      rw [res _ hcal]
      split at ha
      case h_2 => cases ha
      rename_i t t' x y ht' hx'
      rw [hx']
      have e : cl.argTypes = #[t, t'] := by rw [← ht']
      rw [e]
      simp only [List.map_cons, List.map_nil]
      split at ha
      · rename_i htt
        obtain rfl := Nat.eq_of_beq_eq_true htt
        obtain ⟨z, W', φ', r1, rx, r2, r3⟩ := aApp_ok (P := P) (ty := type) ht h (ev' x) (ev' y) ha hc
        exact ⟨_, z, W', φ', run_v r1, .inl rfl, rx, r2, r3⟩
      · obtain ⟨z, W', φ', r1, rx, r2, r3⟩ := aAppendZ_ok (P := P) (ty := type) ht h (ev' x) (ev' y) ha hc
        exact ⟨_, z, W', φ', run_v r1, .inl rfl, rx, r2, r3⟩
    · rename_i hcal
      rw [res _ hcal]
      obtain ⟨a1, a2⟩ := map_rel h ds cl.args.toList
      exact keepV ha fun c u hr hc => aMM_ok (gt := true) a1 a2 hr cl.argTypes type
    · rename_i hcal
      rw [res _ hcal]
      obtain ⟨a1, a2⟩ := map_rel h ds cl.args.toList
      exact keepV ha fun c u hr hc => aMM_ok (gt := false) a1 a2 hr cl.argTypes type
    · cases ha
end
end Go.Proofs.YtaneamfnjhiigaaDoor.E
