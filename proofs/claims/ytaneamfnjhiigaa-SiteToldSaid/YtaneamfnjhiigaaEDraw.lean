/- The engine, part 18: regions that draw their order: whatever the order is, the same comes of it. -/
import Derived.Test.YtaneamfnjhiigaaERun
namespace Go.Proofs.Ytaneamfnjhiigaa.E
open Go
set_option linter.unusedSimpArgs false
set_option linter.unusedVariables false

theorem map_ev {f g : List AV} : ∀ (l : List Operand), (∀ x ∈ l, ev f x = ev g x) → l.map (ev f) = l.map (ev g) := fun l h => List.map_congr_left h

theorem evP_congr {f g : List AV} {ps : Array (Nat × Operand)} (h : ∀ x ∈ (ps.toList.map (·.2)).toArray, ev f x = ev g x) : evP f ps = evP g ps := by
  unfold evP
  refine List.map_congr_left fun p hp => ?_
  rw [h p.2 (by simp only [List.mem_toArray, List.mem_map]; exact ⟨p, hp, rfl⟩)]

theorem aOp_congr {tt : List TE} {op : Op} {f g : List AV} {σ : St} (h : ∀ x ∈ op.operands, ev f x = ev g x) : aOp tt op f σ = aOp tt op g σ := by
  cases op <;> simp only [Op.operands] at h <;> simp only [aOp]
  case build t ps => rw [evP_congr h]
  case buildSlice t n ps => rw [evP_congr h]
  case makeFunc fn us cs =>
    rw [map_ev us.toList fun x hx => h x (by simp only [Array.mem_append]; exact .inl (by simpa using hx)), map_ev cs.toList fun x hx => h x (by simp only [Array.mem_append]; exact .inr (by simpa using hx))]
  case slice t x lo hi mx =>
    have e1 : ∀ y, lo = some y → ev f y = ev g y := fun y hy => h y (by subst hy; simp)
    have e2 : ∀ y, hi = some y → ev f y = ev g y := fun y hy => h y (by subst hy; simp)
    have e3 : ∀ y, mx = some y → ev f y = ev g y := fun y hy => h y (by subst hy; simp)
    have e0 : ev f x = ev g x := h x (by simp)
    have o : ∀ z : Option Operand, (∀ y, z = some y → ev f y = ev g y) → evO f z = evO g z := fun z hz => by
      cases z with
      | none => rfl
      | some y => simp only [evO, Option.map_some, hz y rfl]
    rw [e0, o lo e1, o hi e2, o mx e3]
  case call c =>
    have hargs : ∀ x ∈ c.args.toList, ev f x = ev g x := fun x hx => h x (by simp only [Call.operands, Array.mem_append]; exact .inr (by simpa using hx))
    split
    · split
      · rename_i t x _ hx; rw [hargs x (by rw [hx]; simp)]
      · rfl
    · split
      · rename_i t t' x y _ hx; rw [hargs x (by rw [hx]; simp), hargs y (by rw [hx]; simp)]
      · rfl
    · rw [map_ev _ hargs]
    · rw [map_ev _ hargs]
    · rfl
  case makeSlice t l c => rw [h l (by simp)]
  case store t x y => rw [h x (by simp), h y (by simp)]
  case binOp op t x y t' => rw [h x (by simp), h y (by simp)]
  case indexAddr t x y => rw [h x (by simp), h y (by simp)]
  case index t x y => rw [h x (by simp), h y (by simp)]
  all_goals (first | rfl | (rename_i x; rw [h x (by simp)]) | (rename_i x y; rw [h x (by simp)]) | (rename_i t x y; rw [h x (by simp)]))

theorem ev_set {f : List AV} {d : Nat} {u : AV} {x : Operand} (h : x ≠ .tmp d) : ev (f.set d u) x = ev f x := by
  cases x with
  | tmp t =>
    have : d ≠ t := fun e => h (by rw [e])
    simp only [ev, List.getD_eq_getElem?_getD]
    rw [List.getElem?_set_ne this]
  | _ => rfl

theorem doV_congr {tt : List TE} {cs : Ctrs} {o : Oper} {f g : List AV} {σ : St} (h : ∀ x ∈ o.op.operands, ev f x = ev g x) : doV tt cs o f σ = doV tt cs o g σ := by
  unfold doV
  split
  · rename_i c a b hop
    rw [hop] at h
    simp only [Op.operands] at h
    rw [h c (by simp), h a (by simp), h b (by simp)]
  · rename_i k args ats hop
    rw [hop] at h
    simp only [Op.operands, Call.operands] at h
    rw [h k (by simp), map_ev args.toList fun x hx => h x (by simp only [Array.mem_append]; exact .inr (by simpa using hx))]
  · rw [aOp_congr h]

theorem valF_put {tt : List TE} {cs : Ctrs} {ops : Array Oper} {o : Oper} {f : List AV} {σ : St} {dst : Option Nat} {u : AV} (h : ∀ d, dst = some d → d ∉ o.looksAt ops) : valF tt cs ops.toList o (put1 f dst u) σ = valF tt cs ops.toList o f σ := by
  cases dst with
  | none => rfl
  | some d =>
    have hd := h d rfl
    have h1 : ∀ x ∈ o.op.operands, ev (f.set d u) x = ev f x := fun x hx => ev_set fun e => hd (by
      subst e
      exact List.mem_append_left _ (List.mem_filterMap.2 ⟨.tmp d, by simpa using hx, rfl⟩))
    have h2 : ∀ j want, o.guard = some (j, want) → gval ops.toList (f.set d u) j = gval ops.toList f j := fun j want hg => by
      unfold gval
      split
      · rename_i q hq
        split
        · rename_i e he
          have : d ≠ e := by
            intro e'
            subst e'
            refine hd (List.mem_append_right _ ?_)
            rw [hg]
            simp only [Array.getElem?_toList] at hq
            simp [hq, he]
          simp only [List.getD_eq_getElem?_getD, List.getElem?_set_ne this]
        · rfl
      · rfl
    show valF tt cs ops.toList o (f.set d u) σ = _
    unfold valF
    split
    · exact doV_congr h1
    · rename_i j want hg
      rw [h2 j want hg, doV_congr h1]

/-- What kind of contract a function has: it hangs on its arguments alone; on roots among its arguments too, which it reads; it changes these roots at most. -/
inductive Kind where
  | pure
  | reads (S : List AV → List Nat)
  | foot (S : List AV → St → List Nat)
abbrev Kinds := List (Nat × Kind)
def kindOf (kd : Kinds) (g : Nat) : Option Kind := match kd.find? fun p => Nat.beq p.1 g with | some p => some p.2 | none => none

/-- What kind of operation it is: 0 hangs on its operands alone; 1 reads memory; 2 makes a root; 4 changes roots that are told; 3 anything. -/
def cls (kd : Kinds) (op : Op) : Nat :=
  match op with
  | .move _ | .assign _ | .pick .. | .build .. | .nilCheck _ | .binOp .. | .unOp .. | .convert .. | .makeFunc .. | .slice .. | .fieldAddr .. | .field .. | .indexAddr .. | .index .. | .extract .. => 0
  | .load .. => 1
  | .alloc _ | .box .. | .buildSlice .. | .makeSlice .. => 2
  | .call c => match c.callee with
    | .builtin .len | .builtin .max | .builtin .min => 0
    | .value (.func g) => match kindOf kd g with | some .pure => 0 | some (.reads _) => 1 | some (.foot _) => 4 | none => 3
    | _ => 3
  | _ => 3

/-- A contract hangs on its arguments alone, and leaves the roots alone. -/
def CtrPure (G : Ctr) : Prop := ∀ args σ c u σ', G args σ = some (c, u, σ') → σ' = σ ∧ ∀ σ₂, G args σ₂ = some (c, u, σ₂)
/-- It reads these roots, and leaves all alone. -/
def CtrReads (S : List AV → List Nat) (G : Ctr) : Prop := ∀ args σ c u σ', G args σ = some (c, u, σ') → σ' = σ ∧ (∀ l ∈ S args, l < σ.length) ∧ ∀ σ₂, (∀ l ∈ S args, σ₂[l]? = σ[l]?) → G args σ₂ = some (c, u, σ₂)
/-- It leaves all other roots alone. -/
def CtrFoot (S : List AV → St → List Nat) (G : Ctr) : Prop := ∀ args σ c u σ', G args σ = some (c, u, σ') → ∀ l, l < σ.length → l ∉ S args σ → σ'[l]? = σ[l]?
def KindOk (G : Ctr) : Kind → Prop
  | .pure => CtrPure G
  | .reads S => CtrReads S G
  | .foot S => CtrFoot S G
def KindsOk (cs : Ctrs) (kd : Kinds) : Prop := ∀ g k G, kindOf kd g = some k → ctr cs g = some G → KindOk G k

theorem keep2_some {σ σ' : St} {r : Option (Bool × AV)} {c : Bool} {u : AV} (h : keep2 σ r = some (c, u, σ')) : σ' = σ ∧ ∀ σ₂, keep2 σ₂ r = some (c, u, σ₂) := by
  cases r with
  | none => cases h
  | some p =>
    simp only [keep2, Option.some.injEq, Prod.mk.injEq] at h
    obtain ⟨rfl, rfl, rfl⟩ := h
    exact ⟨rfl, fun _ => rfl⟩

theorem aOp_pure {tt : List TE} {kd : Kinds} {op : Op} {f : List AV} {σ σ' : St} {c : Bool} {u : AV} (hc : cls kd op = 0) (h : aOp tt op f σ = some (c, u, σ')) : σ' = σ ∧ ∀ σ₂, aOp tt op f σ₂ = some (c, u, σ₂) := by
  cases op <;> simp only [cls] at hc <;> simp only [aOp] at h ⊢ <;> try (cases hc; done)
  case move x => simp only [Option.some.injEq, Prod.mk.injEq] at h; obtain ⟨rfl, rfl, rfl⟩ := h; exact ⟨rfl, fun _ => rfl⟩
  case assign x => simp only [Option.some.injEq, Prod.mk.injEq] at h; obtain ⟨rfl, rfl, rfl⟩ := h; exact ⟨rfl, fun _ => rfl⟩
  case makeFunc fn us cs => simp only [Option.some.injEq, Prod.mk.injEq] at h; obtain ⟨rfl, rfl, rfl⟩ := h; exact ⟨rfl, fun _ => rfl⟩
  case slice t x lo hi mx =>
    split at h
    · cases h
    · exact keep2_some h
  case call cl =>
    split at h
    · split at h
      · exact keep2_some h
      · cases h
    · rename_i hb; rw [hb] at hc; cases hc
    · exact keep2_some h
    · exact keep2_some h
    · cases h
  case pick => cases h
  all_goals exact keep2_some h

theorem doV_pure {tt : List TE} {cs : Ctrs} {kd : Kinds} (hp : KindsOk cs kd) {o : Oper} {f : List AV} {σ σ' : St} {u : AV} (hc : cls kd o.op = 0) (h : doV tt cs o f σ = some (u, σ')) : σ' = σ ∧ ∀ σ₂, doV tt cs o f σ₂ = some (u, σ₂) := by
  unfold doV at h ⊢
  split at h
  · rename_i c a b hop
    split at h
    · rename_i x hx
      cases x
      · simp only [cond, Option.some.injEq, Prod.mk.injEq] at h; obtain ⟨rfl, rfl⟩ := h; exact ⟨rfl, fun _ => rfl⟩
      · simp only [cond, Option.some.injEq, Prod.mk.injEq] at h; obtain ⟨rfl, rfl⟩ := h; exact ⟨rfl, fun _ => rfl⟩
    · cases h
  · rename_i k args ats hop
    rw [hop] at hc
    split at h
    case h_2 => cases h
    rename_i g us ks hg
    cases k with
    | func g' =>
      simp only [ev, AV.f.injEq, Fn.func.injEq] at hg
      obtain ⟨rfl, rfl, rfl⟩ := hg
      simp only [cls] at hc
      have hk : kindOf kd g' = some .pure := by
        cases hk : kindOf kd g' with
        | none => simp [hk] at hc
        | some k => cases k <;> simp [hk] at hc ⊢
      cases hG : ctr cs g' with
      | none => rw [hG] at h; cases h
      | some G =>
        simp only [hG] at h ⊢
        split at h
        case h_2 => cases h
        rename_i c0 u0 σ0 h0
        obtain ⟨e1, h1⟩ := hp g' .pure G hk hG _ _ _ _ _ h0
        subst e1
        cases c0 with
        | false => cases h
        | true =>
          simp only [cond, Option.some.injEq, Prod.mk.injEq] at h
          obtain ⟨rfl, rfl⟩ := h
          exact ⟨rfl, fun σ₂ => (by simp only [h1 σ₂, cond])⟩
    | _ => simp [cls] at hc
  · rename_i op hnp hnc
    split at h
    case h_2 => cases h
    rename_i c u1 σ1 ha
    obtain ⟨rfl, h2⟩ := aOp_pure hc ha
    cases c with
    | false => cases h
    | true =>
      simp only [cond, Option.some.injEq, Prod.mk.injEq] at h
      obtain ⟨rfl, rfl⟩ := h
      refine ⟨rfl, fun σ₂ => ?_⟩
      simp only [h2 σ₂, cond]

theorem aAlloc_app {tt : List TE} {t : Nat} {σ σ' : St} {u : AV} (h : aAlloc tt t σ = some (u, σ')) : ∃ B, σ' = σ ++ [B] := by
  unfold aAlloc at h
  repeat' split at h
  all_goals (first | (cases h; done) | (simp only [Option.some.injEq, Prod.mk.injEq] at h; exact ⟨_, h.2.symm⟩))
theorem aBox_app {x : AV} {σ σ' : St} {u : AV} (h : aBox x σ = some (u, σ')) : ∃ B, σ' = σ ++ [B] := by
  unfold aBox at h
  split at h
  · simp only [Option.some.injEq, Prod.mk.injEq] at h; exact ⟨_, h.2.symm⟩
  · cases h
theorem aBuildSlice_app {tt : List TE} {t n : Nat} {ps : List (Nat × AV)} {σ σ' : St} {c : Bool} {u : AV} (h : aBuildSlice tt t n ps σ = some (c, u, σ')) : ∃ B, σ' = σ ++ [B] := by
  unfold aBuildSlice at h
  repeat' split at h
  all_goals (first | (cases h; done) | (simp only [Option.some.injEq, Prod.mk.injEq] at h; exact ⟨_, h.2.2.symm⟩))
theorem aMake_app {tt : List TE} {t : Nat} {x : AV} {σ σ' : St} {c : Bool} {u : AV} (h : aMake tt t x σ = some (c, u, σ')) : ∃ B, σ' = σ ++ [B] := by
  unfold aMake at h
  repeat' split at h
  all_goals (first | (cases h; done) | (simp only [Option.some.injEq, Prod.mk.injEq] at h; exact ⟨_, h.2.2.symm⟩))

theorem doV_alloc {tt : List TE} {cs : Ctrs} {kd : Kinds} {o : Oper} {f : List AV} {σ σ' : St} {u : AV} (hc : cls kd o.op = 2) (h : doV tt cs o f σ = some (u, σ')) : ∃ B, σ' = σ ++ [B] := by
  have fin : ∀ {r : Option (Bool × AV × St)}, (∀ c u σ', r = some (c, u, σ') → ∃ B, σ' = σ ++ [B]) → (match r with | some (c, u, σ') => cond c (some (u, σ')) none | none => none) = some (u, σ') → ∃ B, σ' = σ ++ [B] := by
    intro r hr hh
    cases r with
    | none => cases hh
    | some p =>
      obtain ⟨c, u1, σ1⟩ := p
      cases c with
      | false => cases hh
      | true =>
        simp only [cond, Option.some.injEq, Prod.mk.injEq] at hh
        obtain ⟨rfl, rfl⟩ := hh
        exact hr _ _ _ rfl
  obtain ⟨dst, op, type, pos, after, guard⟩ := o
  simp only at hc
  cases op <;> simp only [cls] at hc <;> try (cases hc; done)
  case alloc t =>
    simp only [doV, aOp] at h
    refine fin (fun c u σ1 hr => ?_) h
    split at hr
    · rename_i u1 σ2 ha
      simp only [Option.some.injEq, Prod.mk.injEq] at hr
      obtain ⟨_, _, rfl⟩ := hr
      exact aAlloc_app ha
    · cases hr
  case box t x =>
    simp only [doV, aOp] at h
    refine fin (fun c u σ1 hr => ?_) h
    split at hr
    · rename_i u1 σ2 ha
      simp only [Option.some.injEq, Prod.mk.injEq] at hr
      obtain ⟨_, _, rfl⟩ := hr
      exact aBox_app ha
    · cases hr
  case buildSlice t n ps =>
    simp only [doV, aOp] at h
    exact fin (fun c u σ1 hr => aBuildSlice_app hr) h
  case makeSlice t l c =>
    simp only [doV, aOp] at h
    refine fin (fun c u σ1 hr => ?_) h
    split at hr
    · exact aMake_app hr
    · cases hr
  case call c =>
    obtain ⟨callee, args, ats⟩ := c
    cases callee with
    | value k =>
      cases k with
      | func g' =>
        simp only at hc
        cases hk : kindOf kd g' with
        | none => simp [hk] at hc
        | some k => cases k <;> simp [hk] at hc
      | _ => simp at hc
    | builtin b => cases b <;> simp at hc
    | _ => simp at hc

/-- The roots that an address names. -/
def rootOf : AV → List Nat
  | .p l _ => [l]
  | .q l _ _ _ => [l]
  | _ => []
theorem aLoad_reads {tt : List TE} {t : Nat} {x : AV} {σ : St} {r : Bool × AV} (h : aLoad tt t x σ = some r) : (∀ l ∈ rootOf x, l < σ.length) ∧ ∀ σ₂, (∀ l ∈ rootOf x, σ₂[l]? = σ[l]?) → aLoad tt t x σ₂ = some r := by
  have key : ∀ l, σ[l]? ≠ none → l < σ.length := fun l hl => by
    rcases Nat.lt_or_ge l σ.length with g | g
    · exact g
    · exact absurd (List.getElem?_eq_none g) hl
  unfold aLoad at h ⊢
  cases he : look tt t with
  | none => simp [he] at h
  | some e =>
    simp only [he] at h ⊢
    cases x <;> simp only at h ⊢ <;> try (cases h; done)
    case p l off =>
      have hn : σ[l]? ≠ none := fun e => by rw [e] at h; cases h
      simp only [rootOf, List.mem_singleton]
      refine ⟨fun k hk => by subst hk; exact key _ hn, fun σ₂ h2 => ?_⟩
      rw [h2 l rfl]; exact h
    case q l sz i j =>
      have hn : σ[l]? ≠ none := fun e => by rw [e] at h; cases h
      simp only [rootOf, List.mem_singleton]
      refine ⟨fun k hk => by subst hk; exact key _ hn, fun σ₂ h2 => ?_⟩
      rw [h2 l rfl]; exact h
    case ip cs j => exact ⟨fun k hk => by simp [rootOf] at hk, fun σ₂ _ => h⟩

/-- What an operation does to memory, where it is done: how many roots there are; the roots that it reads, or changes. -/
structure Lab where
  n : Nat
  S : List Nat
def labV (kd : Kinds) (o : Oper) (f : List AV) (σ : St) : Lab :=
  match o.op with
  | .load _ x => ⟨0, rootOf (ev f x)⟩
  | .alloc _ | .box .. | .buildSlice .. | .makeSlice .. => ⟨σ.length, []⟩
  | .call { callee := .value (.func g), args := args, .. } => match kindOf kd g with
    | some (.reads S) => ⟨0, S (args.toList.map (ev f))⟩
    | some (.foot S) => ⟨σ.length, S (args.toList.map (ev f)) σ⟩
    | _ => ⟨0, []⟩
  | _ => ⟨0, []⟩
def labF (kd : Kinds) (ops : List Oper) (o : Oper) (f : List AV) (σ : St) : Lab :=
  match o.guard with
  | none => labV kd o f σ
  | some (j, want) => match gval ops f j with
    | some (some b) => cnd want b (labV kd o f σ) ⟨match cls kd o.op with | 2 => σ.length | 4 => σ.length | _ => 0, []⟩
    | _ => ⟨match cls kd o.op with | 2 => σ.length | 4 => σ.length | _ => 0, []⟩

theorem labV_congr {kd : Kinds} {o : Oper} {f g : List AV} {σ : St} (h : ∀ x ∈ o.op.operands, ev f x = ev g x) : labV kd o f σ = labV kd o g σ := by
  unfold labV
  split
  · rename_i t x hop
    rw [hop] at h
    rw [h x (by simp [Op.operands])]
  · rfl
  · rfl
  · rfl
  · rfl
  · rename_i k args ats hop
    rw [hop] at h
    simp only [Op.operands, Call.operands] at h
    rw [map_ev args.toList fun x hx => h x (by simp only [Array.mem_append]; exact .inr (by simpa using hx))]
  · rfl

theorem labF_put {kd : Kinds} {ops : Array Oper} {o : Oper} {f : List AV} {σ : St} {dst : Option Nat} {u : AV} (h : ∀ d, dst = some d → d ∉ o.looksAt ops) : labF kd ops.toList o (put1 f dst u) σ = labF kd ops.toList o f σ := by
  cases dst with
  | none => rfl
  | some d =>
    have hd := h d rfl
    have h1 : ∀ x ∈ o.op.operands, ev (f.set d u) x = ev f x := fun x hx => ev_set fun e => hd (by
      subst e
      exact List.mem_append_left _ (List.mem_filterMap.2 ⟨.tmp d, by simpa using hx, rfl⟩))
    have h2 : ∀ j want, o.guard = some (j, want) → gval ops.toList (f.set d u) j = gval ops.toList f j := fun j want hg => by
      unfold gval
      split
      · rename_i q hq
        split
        · rename_i e he
          have : d ≠ e := by
            intro e'
            subst e'
            refine hd (List.mem_append_right _ ?_)
            rw [hg]
            simp only [Array.getElem?_toList] at hq
            simp [hq, he]
          simp only [List.getD_eq_getElem?_getD, List.getElem?_set_ne this]
        · rfl
      · rfl
    show labF kd ops.toList o (f.set d u) σ = _
    unfold labF
    split
    · exact labV_congr h1
    · rename_i j want hg
      rw [h2 j want hg, labV_congr h1]

/-- The label hangs on the roots only by their number, where it isn't that of a call that changes some. -/
theorem labF_mem {kd : Kinds} {ops : List Oper} {o : Oper} {f : List AV} {σ σ₂ : St} (hc : cls kd o.op = 0 ∨ cls kd o.op = 1) : labF kd ops o f σ = labF kd ops o f σ₂ := by
  have hv : labV kd o f σ = labV kd o f σ₂ := by
    unfold labV
    split
    · rfl
    · rename_i hop; rw [hop] at hc; simp [cls] at hc
    · rename_i hop; rw [hop] at hc; simp [cls] at hc
    · rename_i hop; rw [hop] at hc; simp [cls] at hc
    · rename_i hop; rw [hop] at hc; simp [cls] at hc
    · rename_i k args ats hop
      rw [hop] at hc
      simp only [cls] at hc
      split
      · rfl
      · rename_i S hk; rw [hk] at hc; simp at hc
      · rfl
    · rfl
  have hn : (match cls kd o.op with | 2 => σ.length | 4 => σ.length | _ => 0) = match cls kd o.op with | 2 => σ₂.length | 4 => σ₂.length | _ => 0 := by
    rcases hc with h | h <;> (rw [h])
    all_goals rfl
  unfold labF
  rw [hv, hn]

theorem doV_reads {tt : List TE} {cs : Ctrs} {kd : Kinds} (hp : KindsOk cs kd) {o : Oper} {f : List AV} {σ σ' : St} {u : AV} (hc : cls kd o.op = 1) (h : doV tt cs o f σ = some (u, σ')) :
    σ' = σ ∧ (∀ l ∈ (labV kd o f σ).S, l < σ.length) ∧ ∀ σ₂, (∀ l ∈ (labV kd o f σ).S, σ₂[l]? = σ[l]?) → doV tt cs o f σ₂ = some (u, σ₂) := by
  obtain ⟨dst, op, type, pos, after, guard⟩ := o
  simp only at hc
  cases op <;> simp only [cls] at hc <;> try (cases hc; done)
  case load t x =>
    simp only [doV, aOp, labV] at h ⊢
    cases hl : aLoad tt t (ev f x) σ with
    | none => simp [hl, keep2] at h
    | some r =>
      obtain ⟨c, u1⟩ := r
      simp only [hl, keep2] at h
      cases c with
      | false => cases h
      | true =>
        simp only [cond, Option.some.injEq, Prod.mk.injEq] at h
        obtain ⟨rfl, rfl⟩ := h
        obtain ⟨h1, h2⟩ := aLoad_reads hl
        refine ⟨rfl, h1, fun σ₂ hσ => ?_⟩
        simp only [h2 σ₂ hσ, keep2, cond]
  case call c =>
    obtain ⟨callee, args, ats⟩ := c
    cases callee with
    | value k =>
      cases k with
      | func g' =>
        simp only at hc
        obtain ⟨S, hk⟩ : ∃ S, kindOf kd g' = some (.reads S) := by
          cases hk : kindOf kd g' with
          | none => simp [hk] at hc
          | some k => cases k <;> simp [hk] at hc ⊢
        simp only [doV, ev, List.nil_append, List.append_nil, labV, hk] at h ⊢
        cases hG : ctr cs g' with
        | none => rw [hG] at h; cases h
        | some G =>
          simp only [hG] at h ⊢
          split at h
          case h_2 => cases h
          rename_i c0 u0 σ0 h0
          obtain ⟨e1, h1, h2⟩ := hp g' _ G hk hG _ _ _ _ _ h0
          subst e1
          cases c0 with
          | false => cases h
          | true =>
            simp only [cond, Option.some.injEq, Prod.mk.injEq] at h
            obtain ⟨rfl, rfl⟩ := h
            exact ⟨rfl, h1, fun σ₂ hσ => (by simp only [h2 σ₂ hσ, cond])⟩
      | _ => simp at hc
    | builtin b => cases b <;> simp at hc
    | _ => simp at hc

theorem doV_foot {tt : List TE} {cs : Ctrs} {kd : Kinds} (hp : KindsOk cs kd) {o : Oper} {f : List AV} {σ σ' : St} {u : AV} (hc : cls kd o.op = 4) (h : doV tt cs o f σ = some (u, σ')) :
    (labV kd o f σ).n = σ.length ∧ ∀ l, l < σ.length → l ∉ (labV kd o f σ).S → σ'[l]? = σ[l]? := by
  obtain ⟨dst, op, type, pos, after, guard⟩ := o
  simp only at hc
  cases op <;> simp only [cls] at hc <;> try (cases hc; done)
  case call c =>
    obtain ⟨callee, args, ats⟩ := c
    cases callee with
    | value k =>
      cases k with
      | func g' =>
        simp only at hc
        obtain ⟨S, hk⟩ : ∃ S, kindOf kd g' = some (.foot S) := by
          cases hk : kindOf kd g' with
          | none => simp [hk] at hc
          | some k => cases k <;> simp [hk] at hc ⊢
        simp only [doV, ev, List.nil_append, List.append_nil, labV, hk] at h ⊢
        cases hG : ctr cs g' with
        | none => rw [hG] at h; cases h
        | some G =>
          simp only [hG] at h ⊢
          split at h
          case h_2 => cases h
          rename_i c0 u0 σ0 h0
          have h1 := hp g' _ G hk hG _ _ _ _ _ h0
          cases c0 with
          | false => cases h
          | true =>
            simp only [cond, Option.some.injEq, Prod.mk.injEq] at h
            obtain ⟨rfl, rfl⟩ := h
            exact ⟨trivial, h1⟩
      | _ => simp at hc
    | builtin b => cases b <;> simp at hc
    | _ => simp at hc

/-! ### The same of operations that may not be wanted -/
theorem valF_pure {tt : List TE} {cs : Ctrs} {kd : Kinds} (hp : KindsOk cs kd) {ops : List Oper} {o : Oper} {f : List AV} {σ σ' : St} {u : AV} (hc : cls kd o.op = 0) (h : valF tt cs ops o f σ = some (u, σ')) : σ' = σ ∧ ∀ σ₂, valF tt cs ops o f σ₂ = some (u, σ₂) := by
  unfold valF at h ⊢
  split at h
  · exact doV_pure hp hc h
  · split at h
    · rename_i want _ _ b _
      simp only [cnd_eq] at h ⊢
      cases hq : (b == want)
      · rw [hq] at h; simp only [cond, Option.some.injEq, Prod.mk.injEq] at h; obtain ⟨rfl, rfl⟩ := h; exact ⟨rfl, fun _ => (by first | rfl | simp)⟩
      · rw [hq] at h; exact doV_pure hp hc h
    · simp only [Option.some.injEq, Prod.mk.injEq] at h; obtain ⟨rfl, rfl⟩ := h; exact ⟨rfl, fun _ => rfl⟩
    · cases h
theorem valF_alloc {tt : List TE} {cs : Ctrs} {kd : Kinds} {ops : List Oper} {o : Oper} {f : List AV} {σ σ' : St} {u : AV} (hc : cls kd o.op = 2) (h : valF tt cs ops o f σ = some (u, σ')) : σ' = σ ∨ ∃ B, σ' = σ ++ [B] := by
  unfold valF at h
  split at h
  · exact .inr (doV_alloc hc h)
  · split at h
    · rename_i want _ _ b _
      simp only [cnd_eq] at h ⊢
      cases hq : (b == want)
      · rw [hq] at h; simp only [cond, Option.some.injEq, Prod.mk.injEq] at h; exact .inl h.2.symm
      · rw [hq] at h; exact .inr (doV_alloc hc h)
    · simp only [Option.some.injEq, Prod.mk.injEq] at h; exact .inl h.2.symm
    · cases h

theorem valF_reads {tt : List TE} {cs : Ctrs} {kd : Kinds} (hp : KindsOk cs kd) {ops : List Oper} {o : Oper} {f : List AV} {σ σ' : St} {u : AV} (hc : cls kd o.op = 1) (h : valF tt cs ops o f σ = some (u, σ')) :
    σ' = σ ∧ (∀ l ∈ (labF kd ops o f σ).S, l < σ.length) ∧ ∀ σ₂, (∀ l ∈ (labF kd ops o f σ).S, σ₂[l]? = σ[l]?) → valF tt cs ops o f σ₂ = some (u, σ₂) := by
  unfold valF labF at *
  cases hg : o.guard with
  | none => simp only [hg] at h ⊢; exact doV_reads hp hc h
  | some jw =>
    obtain ⟨j, want⟩ := jw
    simp only [hg] at h ⊢
    cases hb : gval ops f j with
    | none => simp [hb] at h
    | some b =>
      cases b with
      | none =>
        simp only [hb, Option.some.injEq, Prod.mk.injEq] at h ⊢
        obtain ⟨rfl, rfl⟩ := h
        exact ⟨rfl, fun l hl => (by simp at hl), fun _ _ => (by simp)⟩
      | some b =>
        simp only [hb, cnd_eq] at h ⊢
        cases hq : (b == want) with
        | false =>
          simp only [hq, cond, Option.some.injEq, Prod.mk.injEq] at h ⊢
          obtain ⟨rfl, rfl⟩ := h
          exact ⟨rfl, fun l hl => (by simp at hl), fun _ _ => (by simp)⟩
        | true => simp only [hq, cond] at h ⊢; exact doV_reads hp hc h
theorem valF_foot {tt : List TE} {cs : Ctrs} {kd : Kinds} (hp : KindsOk cs kd) {ops : List Oper} {o : Oper} {f : List AV} {σ σ' : St} {u : AV} (hc : cls kd o.op = 4) (h : valF tt cs ops o f σ = some (u, σ')) :
    (labF kd ops o f σ).n = σ.length ∧ ∀ l, l < σ.length → l ∉ (labF kd ops o f σ).S → σ'[l]? = σ[l]? := by
  unfold valF labF at *
  cases hg : o.guard with
  | none => simp only [hg] at h ⊢; exact doV_foot hp hc h
  | some jw =>
    obtain ⟨j, want⟩ := jw
    simp only [hg] at h ⊢
    cases hb : gval ops f j with
    | none => simp [hb] at h
    | some b =>
      cases b with
      | none =>
        simp only [hb, Option.some.injEq, Prod.mk.injEq] at h ⊢
        obtain ⟨rfl, rfl⟩ := h
        exact ⟨by simp [hc], fun _ _ _ => rfl⟩
      | some b =>
        simp only [hb, cnd_eq] at h ⊢
        cases hq : (b == want) with
        | false =>
          simp only [hq, cond, Option.some.injEq, Prod.mk.injEq] at h ⊢
          obtain ⟨rfl, rfl⟩ := h
          exact ⟨by simp [hc], fun _ _ _ => rfl⟩
        | true => simp only [hq, cond] at h ⊢; exact doV_foot hp hc h
theorem labV_alloc {kd : Kinds} {o : Oper} {f : List AV} {σ : St} (hc : cls kd o.op = 2) : labV kd o f σ = ⟨σ.length, []⟩ := by
  obtain ⟨dst, op, type, pos, after, guard⟩ := o
  simp only at hc
  cases op <;> simp only [cls] at hc <;> try (cases hc; done)
  case call c =>
    obtain ⟨callee, args, ats⟩ := c
    cases callee with
    | value k =>
      cases k with
      | func g' =>
        simp only at hc
        cases hk : kindOf kd g' with
        | none => simp [hk] at hc
        | some k => cases k <;> simp [hk] at hc
      | _ => simp at hc
    | builtin b => cases b <;> simp at hc
    | _ => simp at hc
  all_goals rfl
theorem labF_alloc {kd : Kinds} {ops : List Oper} {o : Oper} {f : List AV} {σ : St} (hc : cls kd o.op = 2) : labF kd ops o f σ = ⟨σ.length, []⟩ := by
  unfold labF
  simp only [labV_alloc hc, hc]
  split
  · rfl
  · split
    · rename_i b _; rw [cnd_eq]; generalize (b == _) = q; cases q <;> rfl
    · rfl

theorem put_put (f : List AV) {x y : Option Nat} (u v : AV) (h : ∀ d, x = some d → y ≠ some d) : put1 (put1 f x u) y v = put1 (put1 f y v) x u := by
  cases x with
  | none => rfl
  | some d => cases y with
    | none => rfl
    | some e =>
      have : d ≠ e := fun he => h d rfl (by rw [he])
      simp only [put1]
      rw [List.set_comm _ _ this]

/-- Roots apart. -/
def apartS (S S' : List Nat) : Bool := S.all fun l => !(S'.any (Nat.beq l))
theorem apartS_spec {S S' : List Nat} (h : apartS S S' = true) : ∀ l ∈ S, l ∉ S' := fun l hl hl' => by
  have := List.all_eq_true.1 h l hl
  have h2 : S'.any (Nat.beq l) = true := List.any_eq_true.2 ⟨l, hl', Nat.beq_refl l⟩
  rw [h2] at this
  cases this
/-- Two operations that may change places, by their labels: the first one stands ahead in the text. -/
def indep (kd : Kinds) (ops : Array Oper) (x y : Oper) (lx ly : Lab) : Bool :=
  x.apart ops y && match cls kd x.op, cls kd y.op with
    | 0, _ => true
    | _, 0 => true
    | 1, 1 => true
    | 1, 2 => true
    | 2, 1 => ly.S.all fun l => Nat.blt l lx.n
    | 1, 4 => apartS lx.S ly.S
    | 4, 1 => apartS ly.S lx.S && ly.S.all fun l => Nat.blt l lx.n
    | _, _ => false

theorem swap {tt : List TE} {cs : Ctrs} {kd : Kinds} (hp : KindsOk cs kd) {ops : Array Oper} {x y : Oper} {lx ly : Lab} (hi : indep kd ops x y lx ly = true) {f f₁ f₂ : List AV} {σ σ₁ σ₂ : St}
    (h1 : stepF tt cs ops.toList x f σ = some (f₁, σ₁)) (l1 : labF kd ops.toList x f σ = lx) (h2 : stepF tt cs ops.toList y f₁ σ₁ = some (f₂, σ₂)) (l2 : labF kd ops.toList y f₁ σ₁ = ly) :
    ∃ g τ, stepF tt cs ops.toList y f σ = some (g, τ) ∧ labF kd ops.toList y f σ = ly ∧ stepF tt cs ops.toList x g τ = some (f₂, σ₂) ∧ labF kd ops.toList x g τ = lx := by
  simp only [indep, Bool.and_eq_true] at hi
  obtain ⟨hap, hcl⟩ := hi
  obtain ⟨a1, a2, a3⟩ := Oper.apart_spec hap
  unfold stepF at h1 h2
  split at h1
  case h_2 => cases h1
  rename_i ux σx hx
  simp only [Option.some.injEq, Prod.mk.injEq] at h1
  obtain ⟨rfl, rfl⟩ := h1
  split at h2
  case h_2 => cases h2
  rename_i uy σy hy
  simp only [Option.some.injEq, Prod.mk.injEq] at h2
  obtain ⟨rfl, rfl⟩ := h2
  rw [valF_put a1] at hy
  rw [labF_put a1] at l2
  have done : ∀ τ, valF tt cs ops.toList y f σ = some (uy, τ) → labF kd ops.toList y f σ = ly → valF tt cs ops.toList x f τ = some (ux, σy) → labF kd ops.toList x f τ = lx → ∃ g τ, stepF tt cs ops.toList y f σ = some (g, τ) ∧ labF kd ops.toList y f σ = ly ∧ stepF tt cs ops.toList x g τ = some (put1 (put1 f x.dst ux) y.dst uy, σy) ∧ labF kd ops.toList x g τ = lx := by
    intro τ e1 e2 e3 e4
    refine ⟨put1 f y.dst uy, τ, by unfold stepF; rw [e1], e2, ?_, by rw [labF_put a3]; exact e4⟩
    unfold stepF
    rw [valF_put a3, e3, put_put f ux uy a2]
  have hall : ∀ {S : List Nat} {n : Nat}, (S.all fun l => Nat.blt l n) = true → ∀ l ∈ S, l < n := fun h l hl => by
    have := List.all_eq_true.1 h l hl
    simpa [Nat.blt_eq] using this
  split at hcl
  · rename_i hcx
    obtain ⟨rfl, hx'⟩ := valF_pure hp hcx hx
    exact done _ hy l2 (hx' _) ((labF_mem (.inl hcx)).trans l1)
  · rename_i hcy _
    obtain ⟨rfl, hy'⟩ := valF_pure hp hcy hy
    exact done _ (hy' _) ((labF_mem (.inl hcy)).trans l2) hx l1
  · rename_i hcx hcy
    obtain ⟨rfl, _, _⟩ := valF_reads hp hcx hx
    obtain ⟨rfl, _, _⟩ := valF_reads hp hcy hy
    exact done _ hy l2 hx l1
  · rename_i hcx hcy
    obtain ⟨rfl, hlt, hx'⟩ := valF_reads hp hcx hx
    rcases valF_alloc hcy hy with rfl | ⟨B, rfl⟩
    · exact done _ hy l2 hx l1
    · exact done _ hy l2 (hx' _ fun l hl => List.getElem?_append_left (hlt l hl)) ((labF_mem (.inr hcx)).trans l1)
  · rename_i hcx hcy
    have hcl := hall hcl
    obtain ⟨rfl, hlt, hy'⟩ := valF_reads hp hcy hy
    rw [l2] at hlt hy'
    rw [labF_alloc hcx] at l1
    rcases valF_alloc hcx hx with rfl | ⟨B, rfl⟩
    · exact done _ hy l2 hx (by rw [labF_alloc hcx]; exact l1)
    · refine done _ (hy' σ fun l hl => ?_) ((labF_mem (.inr hcy)).trans l2) hx (by rw [labF_alloc hcx]; exact l1)
      have := hcl l hl
      rw [← l1] at this
      exact (List.getElem?_append_left this).symm
  · rename_i hcx hcy
    have hcl := apartS_spec hcl
    obtain ⟨rfl, hlt, hx'⟩ := valF_reads hp hcx hx
    obtain ⟨_, hy'⟩ := valF_foot hp hcy hy
    rw [l1] at hlt hx'
    rw [l2] at hy'
    exact done _ hy l2 (hx' _ fun l hl => hy' l (hlt l hl) (hcl l hl)) ((labF_mem (.inr hcx)).trans l1)
  · rename_i hcx hcy
    simp only [Bool.and_eq_true] at hcl
    have hcl1 := apartS_spec hcl.1
    have hcl2 := hall hcl.2
    obtain ⟨rfl, hlt, hy'⟩ := valF_reads hp hcy hy
    obtain ⟨hn, hx'⟩ := valF_foot hp hcx hx
    rw [l2] at hlt hy'
    rw [l1] at hn hx'
    refine done _ (hy' σ fun l hl => ?_) ((labF_mem (.inr hcy)).trans l2) hx l1
    have h3 := hcl2 l hl
    rw [hn] at h3
    exact (hx' l h3 (hcl1 l hl)).symm
  · cases hcl

/-! ### Any order -/
/-- Which operations must be done ahead of one, at once. -/
def bef (o : Oper) : List Nat := (o.after.toList.filter fun e => Region.binds .any e).map (·.on)
/-- And by way of others. -/
def clo (ops : List Oper) : Nat → Nat → List Nat
  | 0, _ => []
  | n + 1, i => match ops[i]? with
    | some o => bef o ++ (bef o).flatMap (clo ops n)
    | none => []

/-- Each operation may be done in any order that is left open. -/
def okDraw (kd : Kinds) (ops : Array Oper) (labs : List Lab) : Bool :=
  (List.range ops.size).all fun i => match ops[i]? with
    | some y => (bef y).all (fun p => Nat.blt p i) && (List.range i).all fun j => (clo ops.toList ops.size i).any (Nat.beq j) || match ops[j]? with
      | some x => indep kd ops x y (labs.getD j ⟨0, []⟩) (labs.getD i ⟨0, []⟩)
      | none => true
    | none => true

/-- The labels, in the text's order. -/
def labsF (tt : List TE) (cs : Ctrs) (kd : Kinds) (ops : List Oper) : List Oper → List AV → St → List Lab
  | [], _, _ => []
  | o :: l, f, σ => labF kd ops o f σ :: match stepF tt cs ops o f σ with
    | some (f', σ') => labsF tt cs kd ops l f' σ'
    | none => []

/-- Operations by their places, each with its label. -/
def idxP (tt : List TE) (cs : Ctrs) (kd : Kinds) (ops : Array Oper) (labs : List Lab) (f2 : List AV) (σ2 : St) : List Nat → List AV → St → Prop
  | [], f, σ => f = f2 ∧ σ = σ2
  | i :: l, f, σ => ∃ o f' σ', ops[i]? = some o ∧ stepF tt cs ops.toList o f σ = some (f', σ') ∧ labF kd ops.toList o f σ = labs.getD i ⟨0, []⟩ ∧ idxP tt cs kd ops labs f2 σ2 l f' σ'

theorem idx_front {tt : List TE} {cs : Ctrs} {kd : Kinds} (hp : KindsOk cs kd) {ops : Array Oper} {labs : List Lab} {i : Nat} {y : Oper} (hy : ops[i]? = some y) {l2 : List Nat} {f2 : List AV} {σ2 : St} : ∀ (l1 : List Nat) (f : List AV) (σ : St), (∀ j ∈ l1, ∀ x, ops[j]? = some x → indep kd ops x y (labs.getD j ⟨0, []⟩) (labs.getD i ⟨0, []⟩) = true) →
    idxP tt cs kd ops labs f2 σ2 (l1 ++ i :: l2) f σ → idxP tt cs kd ops labs f2 σ2 (i :: (l1 ++ l2)) f σ := by
  intro l1
  induction l1 with
  | nil => intro f σ _ h; exact h
  | cons j l1 ih =>
    intro f σ hi h
    obtain ⟨x, f1, σ1, hx, hs, hl, h⟩ := h
    obtain ⟨y', f3, σ3, hy', hs2, hl2, h'⟩ := ih f1 σ1 (fun k hk => hi k (List.mem_cons_of_mem _ hk)) h
    rw [hy] at hy'
    obtain rfl := Option.some.inj hy'
    obtain ⟨g, τ, e1, e2, e3, e4⟩ := swap hp (hi j (List.mem_cons_self) x hx) hs hl hs2 hl2
    exact ⟨y, g, τ, hy, e1, e2, x, f3, σ3, hx, e3, e4, h'⟩

section
variable {P : Program} {tt : List TE} (ht : TTok P tt) {cs : Ctrs} (hcs : CtrsOk P cs) {kd : Kinds} (hp : KindsOk cs kd)
include ht hcs hp

theorem any_ok {ops : Array Oper} {labs : List Lab} (hd : okDraw kd ops labs = true) {E : Ent} {r : Option Nat} {Q : Exit → Act → World → Prop} {f' : List AV} {σ' : St} (hq : ∀ a' w', Holds E f' σ' a' w' → Q .normal a' w') : ∀ (n : Nat) (L : List Nat) (listed : Array Bool) {f : List AV} {σ : St} {a : Act} {w : World}, L.length = n →
    listed.size = ops.size → L.Pairwise (· < ·) → (∀ i, i < ops.size → (i ∈ L ↔ listed.getD i true = false)) → (∀ i ∈ L, i < ops.size) → (∀ i o, i < ops.size → listed.getD i true = true → ops[i]? = some o → ∀ p ∈ bef o, listed.getD p false = true) →
    Holds E f σ a w → idxP tt cs kd ops labs f' σ' L f σ → wpAnyIn (fen r) 0 P .any ops Q n listed a w := by
  have hdi : ∀ i y, i < ops.size → ops[i]? = some y → (∀ p ∈ bef y, p < i) ∧ ∀ j x, j < i → ops[j]? = some x → j ∈ clo ops.toList ops.size i ∨ indep kd ops x y (labs.getD j ⟨0, []⟩) (labs.getD i ⟨0, []⟩) = true := by
    intro i y hi hy
    have h1 := List.all_eq_true.1 hd i (List.mem_range.2 hi)
    rw [hy] at h1
    simp only [Bool.and_eq_true] at h1
    refine ⟨fun p hp' => ?_, fun j x hj hx => ?_⟩
    · have := List.all_eq_true.1 h1.1 p hp'
      simpa [Nat.blt_eq] using this
    · have := List.all_eq_true.1 h1.2 j (List.mem_range.2 hj)
      rw [hx] at this
      simp only [Bool.or_eq_true] at this
      rcases this with h | h
      · obtain ⟨z, hz, he⟩ := List.any_eq_true.1 h
        rw [Nat.eq_of_beq_eq_true he]; exact .inl hz
      · exact .inr h
  intro n
  induction n with
  | zero =>
    intro L listed f σ a w hn hsz hpw hL hLlt hdown h hr
    obtain rfl : L = [] := List.eq_nil_of_length_eq_zero hn
    obtain ⟨rfl, rfl⟩ := hr
    refine ⟨?_, hq a w h⟩
    unfold Region.ready
    refine List.filter_eq_nil_iff.2 fun i hi => ?_
    have hi := List.mem_range.1 hi
    have : ¬ listed.getD i true = false := fun e => by have := (hL i hi).2 e; simp at this
    simp [this]
  | succ n ih =>
    intro L listed f σ a w hn hsz hpw hL hLlt hdown h hr
    have hready : ∀ i, i ∈ Region.ready .any ops listed ↔ i < ops.size ∧ listed.getD i true = false ∧ ∀ o, ops[i]? = some o → ∀ p ∈ bef o, listed.getD p false = true := by
      intro i
      unfold Region.ready
      rw [List.mem_filter, List.mem_range]
      constructor
      · rintro ⟨h1, h2⟩
        simp only [Bool.and_eq_true, Bool.not_eq_true'] at h2
        refine ⟨h1, h2.1, fun o ho p hp' => ?_⟩
        have h3 := h2.2
        rw [ho] at h3
        simp only [Option.map_some, Option.getD_some] at h3
        obtain ⟨e, he, rfl⟩ := List.mem_map.1 hp'
        obtain ⟨he1, he2⟩ := List.mem_filter.1 he
        have := (Array.all_eq_true'.1 h3) e (by simpa using he1)
        simpa [he2] using this
      · rintro ⟨h1, h2, h3⟩
        refine ⟨h1, ?_⟩
        simp only [Bool.and_eq_true, Bool.not_eq_true']
        refine ⟨h2, ?_⟩
        have ho : ops[i]? = some ops[i] := Array.getElem?_eq_getElem h1
        rw [ho]
        simp only [Option.map_some, Option.getD_some]
        refine Array.all_eq_true'.2 fun e he => ?_
        cases hb : Region.binds .any e with
        | false => simp
        | true =>
          have := h3 _ ho e.on (List.mem_map.2 ⟨e, List.mem_filter.2 ⟨by simpa using he, hb⟩, rfl⟩)
          simp [this]
    refine ⟨fun hnil => ?_, fun i hi => ?_⟩
    · -- the first one that is left is ready
      exfalso
      cases L with
      | nil => simp at hn
      | cons i L =>
        have hilt := hLlt i (List.mem_cons_self)
        have : i ∈ Region.ready .any ops listed := by
          refine (hready i).2 ⟨hilt, (hL i hilt).1 (List.mem_cons_self), fun o ho p hp' => ?_⟩
          have hpi := (hdi i o hilt ho).1 p hp'
          have hplt : p < ops.size := by omega
          have : p ∉ i :: L := fun hm => by
            rcases List.mem_cons.1 hm with rfl | hm
            · omega
            · have := (List.pairwise_cons.1 hpw).1 p hm; omega
          have h2 : ¬ listed.getD p true = false := fun e => this ((hL p hplt).2 e)
          have h3 : p < listed.size := by omega
          simp only [Array.getD, h3] at h2 ⊢
          simpa using h2
        rw [hnil] at this; cases this
    · obtain ⟨hilt, hil, hbef⟩ := (hready i).1 hi
      have ho : ops[i]? = some ops[i] := Array.getElem?_eq_getElem hilt
      have hmem := (hL i hilt).2 hil
      obtain ⟨L1, L2, rfl⟩ := List.append_of_mem hmem
      -- what must be ahead by way of others is done
      have hclo : ∀ m k, k < ops.size → (∀ o, ops[k]? = some o → ∀ p ∈ bef o, listed.getD p false = true) → ∀ p ∈ clo ops.toList m k, listed.getD p false = true := by
        intro m
        induction m with
        | zero => intro k _ _ p hp'; simp [clo] at hp'
        | succ m ihm =>
          intro k hk hb p hp'
          have hok : ops.toList[k]? = some ops[k] := by simp [hk]
          simp only [clo, hok] at hp'
          rcases List.mem_append.1 hp' with h1 | h1
          · exact hb _ (Array.getElem?_eq_getElem hk) p h1
          · obtain ⟨q, hq1, hq2⟩ := List.mem_flatMap.1 h1
            have hlq := hb _ (Array.getElem?_eq_getElem hk) q hq1
            have hqlt : q < ops.size := by
              have := (hdi k _ hk (Array.getElem?_eq_getElem hk)).1 q hq1; omega
            have hq3 : listed.getD q true = true := by
              have h3 : q < listed.size := by omega
              simp only [Array.getD, h3] at hlq ⊢
              simpa using hlq
            exact ihm q hqlt (fun o ho => hdown q o hqlt hq3 ho) p hq2
      have hind : ∀ j ∈ L1, ∀ x, ops[j]? = some x → indep kd ops x ops[i] (labs.getD j ⟨0, []⟩) (labs.getD i ⟨0, []⟩) = true := by
        intro j hj x hx
        have hji : j < i := by
          have := (List.pairwise_append.1 hpw).2.2 j hj i (List.mem_cons_self); exact this
        rcases (hdi i _ hilt ho).2 j x hji hx with h1 | h1
        · have h2 := hclo _ i hilt hbef j h1
          have h3 := (hL j (by omega)).1 (List.mem_append_left _ hj)
          have h4 : j < listed.size := by omega
          simp only [Array.getD, h4] at h2 h3
          simp at h2 h3
          rw [h2] at h3; cases h3
        · exact h1
      have hfr := idx_front hp ho L1 f σ hind hr
      obtain ⟨o1, f1, σ1, ho1, hs, _, hfr⟩ := hfr
      rw [ho] at ho1
      obtain rfl := Option.some.inj ho1
      · 
        have hset : ∀ k, (listed.setIfInBounds i true).getD k true = if k = i then true else listed.getD k true := by
          intro k
          simp only [Array.getD_eq_getD_getElem?, Array.getElem?_setIfInBounds]
          split
          · rename_i e; subst e; simp; split <;> simp
          · rename_i e; rw [if_neg (Ne.symm e)]
        have hset2 : ∀ k, listed.getD k false = true → (listed.setIfInBounds i true).getD k false = true := by
          intro k hk
          simp only [Array.getD_eq_getD_getElem?, Array.getElem?_setIfInBounds] at hk ⊢
          split
          · rename_i e
            subst e
            have : i < listed.size := by omega
            simp [this]
          · exact hk
        have step := stepF_ok ht hcs (r := r) h hs (Q := Q) (next := wpAnyIn (fen r) 0 P .any ops Q n (listed.setIfInBounds i true)) fun a' w' h' => by
          refine ih (L1 ++ L2) _ (by simp at hn ⊢; omega) (by simpa using hsz) ?_ (fun k hk => ?_) (fun k hk => hLlt k ?_) (fun k o hk hkl hko p hp' => ?_) h' hfr
          · have := List.pairwise_append.1 hpw
            exact List.pairwise_append.2 ⟨this.1, (List.pairwise_cons.1 this.2.1).2, fun x hx y hy => this.2.2 x hx y (List.mem_cons_of_mem _ hy)⟩
          · rw [hset]
            have hnd : i ∉ L1 ++ L2 := by
              intro hm
              have := List.pairwise_append.1 hpw
              rcases List.mem_append.1 hm with h1 | h1
              · have := this.2.2 i h1 i (List.mem_cons_self); omega
              · have := (List.pairwise_cons.1 this.2.1).1 i h1; omega
            by_cases hki : k = i
            · subst hki; simp [hnd]
            · rw [if_neg hki, ← hL k hk]
              simp only [List.mem_append, List.mem_cons, hki, false_or]
          · rcases List.mem_append.1 hk with h1 | h1
            · exact List.mem_append_left _ h1
            · exact List.mem_append_right _ (List.mem_cons_of_mem _ h1)
          · rw [hset] at hkl
            by_cases hki : k = i
            · subst hki
              rw [ho] at hko
              obtain rfl := Option.some.inj hko
              exact hset2 p (hbef _ ho p hp')
            · rw [if_neg hki] at hkl
              exact hset2 p (hdown k o hk hkl hko p hp')
        unfold wpOpIn
        rw [ho]
        exact step

omit ht hcs hp in
theorem idx_ops {ops : Array Oper} {labs : List Lab} : ∀ (l : List Oper) (k : Nat), (∀ j, l[j]? = ops[k + j]?) → ∀ (f : List AV) (σ : St) {f2 : List AV} {σ2 : St}, opsF tt cs ops.toList l f σ = some (f2, σ2) → (∀ j, (labsF tt cs kd ops.toList l f σ)[j]? = none ∨ (labsF tt cs kd ops.toList l f σ).getD j ⟨0, []⟩ = labs.getD (k + j) ⟨0, []⟩) →
    idxP tt cs kd ops labs f2 σ2 (List.range' k l.length) f σ := by
  intro l
  induction l with
  | nil =>
    intro k _ f σ f2 σ2 h _
    simp only [opsF, Option.some.injEq, Prod.mk.injEq] at h
    exact h
  | cons o l ih =>
    intro k h f σ f2 σ2 hr hl
    have h0 : ops[k]? = some o := by simpa using (h 0).symm
    simp only [opsF] at hr
    cases hs : stepF tt cs ops.toList o f σ with
    | none => simp [hs] at hr
    | some p =>
      simp only [hs] at hr
      simp only [labsF, hs] at hl
      refine ⟨o, p.1, p.2, h0, hs, by simpa using hl 0, ?_⟩
      refine ih (k + 1) (fun j => by have := h (j + 1); simpa [Nat.add_assoc, Nat.add_comm 1 j] using this) p.1 p.2 hr fun j => ?_
      have := hl (j + 1)
      simpa [Nat.add_assoc, Nat.add_comm 1 j] using this

/-- A region that draws its order. -/
theorem draw_ok {ops : Array Oper} (hm : P.follows .mixedOrders = true) {E : Ent} {r : Option Nat} {Q : Exit → Act → World → Prop} {f f' : List AV} {σ σ' : St} {a : Act} {w : World} {id : Nat} (hd : okDraw kd ops (labsF tt cs kd ops.toList ops.toList f σ) = true)
    (h : Holds E f σ a w) (hr : opsF tt cs ops.toList ops.toList f σ = some (f', σ')) (hq : ∀ a' w', Holds E f' σ' a' w' → Q .normal a' w') : (Code.region id ops true).wpIn (fen r) 0 P Q a w := by
  refine wpIn_region_any hm ?_
  refine any_ok ht hcs hp hd hq ops.size (List.range' 0 ops.toList.length) (Array.replicate ops.size false) (by simp) (by simp) List.pairwise_lt_range' (fun i hi => by simp [hi]) (fun i hi => by simpa using hi) (fun i o hi hl => by simp [hi] at hl) ?_ (idx_ops ops.toList 0 (fun j => by simp) f σ hr fun j => .inr (by simp))
  obtain ⟨R, φ, hT, hl, hf, hmk⟩ := h
  have hk : Keep (fun _ _ => False) w { w with drawn := w.drawn + 1 } := Keep.drew _ w
  have hcalm : Calm R w { w with drawn := w.drawn + 1 } := hk.calm fun _ _ h => h.elim
  have ht' : Turn R φ σ w R φ σ { w with drawn := w.drawn + 1 } := ⟨fun _ h => h, fun _ h => .inl h, Ext.refl _, ⟨fun l B e => (hT.sim.blk l B e).kept hk (fun _ h => h) (fun _ _ h => h.elim) (fun _ _ _ h => h.elim) (Ext.refl _), hT.sim.sep, hT.sim.ro, hT.sim.old, hT.sim.dom⟩, fun _ _ h => .inl h, hk.mono fun _ _ h => h.elim⟩
  exact ⟨R, φ, hT.trans ht', hl, fun t u hu => ht'.vr hT.sim (hf t u hu), hmk.keep hT.sim ht'.keep⟩
end
end Go.Proofs.Ytaneamfnjhiigaa.E
