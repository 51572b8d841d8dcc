/- The engine, part 17: regions that draw their order: whatever the order is, the same comes of it. -/
import Derived.Test.YtohgniddfpjjfaaERun
import Derived.Orders
namespace Go.Proofs.Ytohgniddfpjjfaa.E
open Go
set_option linter.unusedSimpArgs false
set_option linter.unusedVariables false

theorem map_ev {f g : List AV} : ∀ (l : List Operand), (∀ x ∈ l, ev f x = ev g x) → l.map (ev f) = l.map (ev g) := fun l h => List.map_congr_left h

theorem evP_congr {f g : List AV} {ps : Array (Nat × Operand)} (h : ∀ x ∈ (ps.toList.map (·.2)).toArray, ev f x = ev g x) : evP f ps = evP g ps := by
  unfold evP
  refine List.map_congr_left fun p hp => ?_
  rw [h p.2 (by simp only [List.mem_toArray, List.mem_map]; exact ⟨p, hp, rfl⟩)]

theorem aOp_congr {tt : List TE} {op : Op} {f g : List AV} {σ : St} (h : ∀ x ∈ op.operands, ev f x = ev g x) : aOp tt op f σ = aOp tt op g σ := by
  cases op <;> simp only [Op.operands] at h <;> simp only [aOp]
  case build t ps => rw [evP_congr h]
  case buildSlice t n ps => rw [evP_congr h]
  case makeFunc fn us cs =>
    rw [map_ev us.toList fun x hx => h x (by simp only [Array.mem_append]; exact .inl (by simpa using hx)), map_ev cs.toList fun x hx => h x (by simp only [Array.mem_append]; exact .inr (by simpa using hx))]
  case slice t x lo hi mx =>
    have e1 : ∀ y, lo = some y → ev f y = ev g y := fun y hy => h y (by subst hy; simp)
    have e2 : ∀ y, hi = some y → ev f y = ev g y := fun y hy => h y (by subst hy; simp)
    have e3 : ∀ y, mx = some y → ev f y = ev g y := fun y hy => h y (by subst hy; simp)
    have e0 : ev f x = ev g x := h x (by simp)
    have o : ∀ z : Option Operand, (∀ y, z = some y → ev f y = ev g y) → evO f z = evO g z := fun z hz => by
      cases z with
      | none => rfl
      | some y => simp only [evO, Option.map_some, hz y rfl]
    rw [e0, o lo e1, o hi e2, o mx e3]
  case call c =>
    have hargs : ∀ x ∈ c.args.toList, ev f x = ev g x := fun x hx => h x (by simp only [Call.operands, Array.mem_append]; exact .inr (by simpa using hx))
    split
    · split
      · rename_i t x _ hx; rw [hargs x (by rw [hx]; simp)]
      · rfl
    · split
      · rename_i t t' x y _ hx; rw [hargs x (by rw [hx]; simp), hargs y (by rw [hx]; simp)]
      · rfl
    · rw [map_ev _ hargs]
    · rw [map_ev _ hargs]
    · rfl
  case makeSlice t l c => rw [h l (by simp)]
  case store t x y => rw [h x (by simp), h y (by simp)]
  case binOp op t x y t' => rw [h x (by simp), h y (by simp)]
  case indexAddr t x y => rw [h x (by simp), h y (by simp)]
  case index t x y => rw [h x (by simp), h y (by simp)]
  all_goals (first | rfl | (rename_i x; rw [h x (by simp)]) | (rename_i x y; rw [h x (by simp)]) | (rename_i t x y; rw [h x (by simp)]))

theorem ev_set {f : List AV} {d : Nat} {u : AV} {x : Operand} (h : x ≠ .tmp d) : ev (f.set d u) x = ev f x := by
  cases x with
  | tmp t =>
    have : d ≠ t := fun e => h (by rw [e])
    simp only [ev, List.getD_eq_getElem?_getD]
    rw [List.getElem?_set_ne this]
  | _ => rfl

theorem doV_congr {tt : List TE} {cs : Ctrs} {o : Oper} {f g : List AV} {σ : St} (h : ∀ x ∈ o.op.operands, ev f x = ev g x) : doV tt cs o f σ = doV tt cs o g σ := by
  unfold doV
  split
  · rename_i c a b hop
    rw [hop] at h
    simp only [Op.operands] at h
    rw [h c (by simp), h a (by simp), h b (by simp)]
  · rename_i k args ats hop
    rw [hop] at h
    simp only [Op.operands, Call.operands] at h
    rw [h k (by simp), map_ev args.toList fun x hx => h x (by simp only [Array.mem_append]; exact .inr (by simpa using hx))]
  · rw [aOp_congr h]

theorem valF_put {tt : List TE} {cs : Ctrs} {ops : Array Oper} {o : Oper} {f : List AV} {σ : St} {dst : Option Nat} {u : AV} (h : ∀ d, dst = some d → d ∉ o.looksAt ops) : valF tt cs ops.toList o (put1 f dst u) σ = valF tt cs ops.toList o f σ := by
  cases dst with
  | none => rfl
  | some d =>
    have hd := h d rfl
    have h1 : ∀ x ∈ o.op.operands, ev (f.set d u) x = ev f x := fun x hx => ev_set fun e => hd (by
      subst e
      exact List.mem_append_left _ (List.mem_filterMap.2 ⟨.tmp d, by simpa using hx, rfl⟩))
    have h2 : ∀ j want, o.guard = some (j, want) → gval ops.toList (f.set d u) j = gval ops.toList f j := fun j want hg => by
      unfold gval
      split
      · rename_i q hq
        split
        · rename_i e he
          have : d ≠ e := by
            intro e'
            subst e'
            refine hd (List.mem_append_right _ ?_)
            rw [hg]
            simp only [Array.getElem?_toList] at hq
            simp [hq, he]
          simp only [List.getD_eq_getElem?_getD, List.getElem?_set_ne this]
        · rfl
      · rfl
    show valF tt cs ops.toList o (f.set d u) σ = _
    unfold valF
    split
    · exact doV_congr h1
    · rename_i j want hg
      rw [h2 j want hg, doV_congr h1]

/-- What kind of operation it is: 0 hangs on its operands alone; 1 reads memory; 2 makes a root; 3 anything. 'pc': the functions whose contracts hang on their arguments alone. -/
def cls (pc : List Nat) (op : Op) : Nat :=
  match op with
  | .move _ | .assign _ | .pick .. | .build .. | .nilCheck _ | .binOp .. | .unOp .. | .convert .. | .makeFunc .. | .slice .. | .fieldAddr .. | .field .. | .indexAddr .. | .index .. | .extract .. => 0
  | .load .. => 1
  | .alloc _ | .box .. | .buildSlice .. | .makeSlice .. => 2
  | .call c => match c.callee with
    | .builtin .len | .builtin .max | .builtin .min => 0
    | .value (.func g) => match pc.any (Nat.beq g) with | true => 0 | false => 3
    | _ => 3
  | _ => 3

/-- A contract hangs on its arguments alone, and leaves the roots alone. -/
def CtrPure (G : Ctr) : Prop := ∀ args σ c u σ', G args σ = some (c, u, σ') → σ' = σ ∧ ∀ σ₂, G args σ₂ = some (c, u, σ₂)
def PureOk (cs : Ctrs) (pc : List Nat) : Prop := ∀ g ∈ pc, ∀ G, ctr cs g = some G → CtrPure G

theorem keep2_some {σ σ' : St} {r : Option (Bool × AV)} {c : Bool} {u : AV} (h : keep2 σ r = some (c, u, σ')) : σ' = σ ∧ ∀ σ₂, keep2 σ₂ r = some (c, u, σ₂) := by
  cases r with
  | none => cases h
  | some p =>
    simp only [keep2, Option.some.injEq, Prod.mk.injEq] at h
    obtain ⟨rfl, rfl, rfl⟩ := h
    exact ⟨rfl, fun _ => rfl⟩

theorem aOp_pure {tt : List TE} {pc : List Nat} {op : Op} {f : List AV} {σ σ' : St} {c : Bool} {u : AV} (hc : cls pc op = 0) (h : aOp tt op f σ = some (c, u, σ')) : σ' = σ ∧ ∀ σ₂, aOp tt op f σ₂ = some (c, u, σ₂) := by
  cases op <;> simp only [cls] at hc <;> simp only [aOp] at h ⊢ <;> try (cases hc; done)
  case move x => simp only [Option.some.injEq, Prod.mk.injEq] at h; obtain ⟨rfl, rfl, rfl⟩ := h; exact ⟨rfl, fun _ => rfl⟩
  case assign x => simp only [Option.some.injEq, Prod.mk.injEq] at h; obtain ⟨rfl, rfl, rfl⟩ := h; exact ⟨rfl, fun _ => rfl⟩
  case makeFunc fn us cs => simp only [Option.some.injEq, Prod.mk.injEq] at h; obtain ⟨rfl, rfl, rfl⟩ := h; exact ⟨rfl, fun _ => rfl⟩
  case slice t x lo hi mx =>
    split at h
    · cases h
    · exact keep2_some h
  case call cl =>
    split at h
    · split at h
      · exact keep2_some h
      · cases h
    · rename_i hb; rw [hb] at hc; cases hc
    · exact keep2_some h
    · exact keep2_some h
    · cases h
  case pick => cases h
  all_goals exact keep2_some h

theorem aLoad_more {tt : List TE} {t : Nat} {x : AV} {σ : St} {r : Bool × AV} (h : aLoad tt t x σ = some r) (B : Blk) : aLoad tt t x (σ ++ [B]) = some r := by
  have key : ∀ l, σ[l]? ≠ none → (σ ++ [B])[l]? = σ[l]? := fun l hl => by
    rw [List.getElem?_append_left]
    rcases Nat.lt_or_ge l σ.length with g | g
    · exact g
    · exact absurd (List.getElem?_eq_none g) hl
  unfold aLoad at h ⊢
  cases he : look tt t with
  | none => simp [he] at h
  | some e =>
    simp only [he] at h ⊢
    cases x <;> simp only at h ⊢ <;> try (cases h; done)
    case p l off =>
      have : σ[l]? ≠ none := fun e => by rw [e] at h; cases h
      rw [key l this]; exact h
    case q l sz i j =>
      have : σ[l]? ≠ none := fun e => by rw [e] at h; cases h
      rw [key l this]; exact h
    case ip cs j => exact h

theorem doV_pure {tt : List TE} {cs : Ctrs} {pc : List Nat} (hp : PureOk cs pc) {o : Oper} {f : List AV} {σ σ' : St} {u : AV} (hc : cls pc o.op = 0) (h : doV tt cs o f σ = some (u, σ')) : σ' = σ ∧ ∀ σ₂, doV tt cs o f σ₂ = some (u, σ₂) := by
  unfold doV at h ⊢
  split at h
  · rename_i c a b hop
    split at h
    · rename_i x hx
      cases x
      · simp only [cond, Option.some.injEq, Prod.mk.injEq] at h; obtain ⟨rfl, rfl⟩ := h; exact ⟨rfl, fun _ => rfl⟩
      · simp only [cond, Option.some.injEq, Prod.mk.injEq] at h; obtain ⟨rfl, rfl⟩ := h; exact ⟨rfl, fun _ => rfl⟩
    · cases h
  · rename_i k args ats hop
    rw [hop] at hc
    split at h
    case h_2 => cases h
    rename_i g us ks hg
    cases k with
    | func g' =>
      simp only [ev, AV.f.injEq, Fn.func.injEq] at hg
      obtain ⟨rfl, rfl, rfl⟩ := hg
      simp only [cls] at hc
      split at hc
      · rename_i hm
        obtain ⟨z, hz, he⟩ := List.any_eq_true.1 hm
        obtain rfl := Nat.eq_of_beq_eq_true he
        cases hG : ctr cs g' with
        | none => rw [hG] at h; cases h
        | some G =>
          simp only [hG] at h ⊢
          split at h
          case h_2 => cases h
          rename_i c0 u0 σ0 h0
          obtain ⟨e1, h1⟩ := hp g' hz G hG _ _ _ _ _ h0
          subst e1
          cases c0 with
          | false => cases h
          | true =>
            simp only [cond, Option.some.injEq, Prod.mk.injEq] at h
            obtain ⟨rfl, rfl⟩ := h
            exact ⟨rfl, fun σ₂ => (by simp only [h1 σ₂, cond])⟩
      · cases hc
    | _ => simp [cls] at hc
  · rename_i op hnp hnc
    split at h
    case h_2 => cases h
    rename_i c u1 σ1 ha
    obtain ⟨rfl, h2⟩ := aOp_pure hc ha
    cases c with
    | false => cases h
    | true =>
      simp only [cond, Option.some.injEq, Prod.mk.injEq] at h
      obtain ⟨rfl, rfl⟩ := h
      refine ⟨rfl, fun σ₂ => ?_⟩
      simp only [h2 σ₂, cond]

theorem doV_load {tt : List TE} {cs : Ctrs} {pc : List Nat} {o : Oper} {f : List AV} {σ σ' : St} {u : AV} (hc : cls pc o.op = 1) (h : doV tt cs o f σ = some (u, σ')) : σ' = σ ∧ ∀ B, doV tt cs o f (σ ++ [B]) = some (u, σ ++ [B]) := by
  obtain ⟨dst, op, type, pos, after, guard⟩ := o
  simp only at hc
  cases op <;> simp only [cls] at hc <;> try (cases hc; done)
  case load t x =>
    simp only [doV, aOp] at h ⊢
    cases hl : aLoad tt t (ev f x) σ with
    | none => simp [hl, keep2] at h
    | some r =>
      obtain ⟨c, u1⟩ := r
      simp only [hl, keep2] at h
      cases c with
      | false => cases h
      | true =>
        simp only [cond, Option.some.injEq, Prod.mk.injEq] at h
        obtain ⟨rfl, rfl⟩ := h
        refine ⟨rfl, fun B => ?_⟩
        simp only [aLoad_more hl B, keep2, cond]
  case call c =>
    split at hc <;> try (cases hc; done)
    split at hc <;> cases hc

theorem aAlloc_app {tt : List TE} {t : Nat} {σ σ' : St} {u : AV} (h : aAlloc tt t σ = some (u, σ')) : ∃ B, σ' = σ ++ [B] := by
  unfold aAlloc at h
  repeat' split at h
  all_goals (first | (cases h; done) | (simp only [Option.some.injEq, Prod.mk.injEq] at h; exact ⟨_, h.2.symm⟩))
theorem aBox_app {x : AV} {σ σ' : St} {u : AV} (h : aBox x σ = some (u, σ')) : ∃ B, σ' = σ ++ [B] := by
  unfold aBox at h
  split at h
  · simp only [Option.some.injEq, Prod.mk.injEq] at h; exact ⟨_, h.2.symm⟩
  · cases h
theorem aBuildSlice_app {tt : List TE} {t n : Nat} {ps : List (Nat × AV)} {σ σ' : St} {c : Bool} {u : AV} (h : aBuildSlice tt t n ps σ = some (c, u, σ')) : ∃ B, σ' = σ ++ [B] := by
  unfold aBuildSlice at h
  repeat' split at h
  all_goals (first | (cases h; done) | (simp only [Option.some.injEq, Prod.mk.injEq] at h; exact ⟨_, h.2.2.symm⟩))
theorem aMake_app {tt : List TE} {t : Nat} {x : AV} {σ σ' : St} {c : Bool} {u : AV} (h : aMake tt t x σ = some (c, u, σ')) : ∃ B, σ' = σ ++ [B] := by
  unfold aMake at h
  repeat' split at h
  all_goals (first | (cases h; done) | (simp only [Option.some.injEq, Prod.mk.injEq] at h; exact ⟨_, h.2.2.symm⟩))

theorem doV_alloc {tt : List TE} {cs : Ctrs} {pc : List Nat} {o : Oper} {f : List AV} {σ σ' : St} {u : AV} (hc : cls pc o.op = 2) (h : doV tt cs o f σ = some (u, σ')) : ∃ B, σ' = σ ++ [B] := by
  have fin : ∀ {r : Option (Bool × AV × St)}, (∀ c u σ', r = some (c, u, σ') → ∃ B, σ' = σ ++ [B]) → (match r with | some (c, u, σ') => cond c (some (u, σ')) none | none => none) = some (u, σ') → ∃ B, σ' = σ ++ [B] := by
    intro r hr hh
    cases r with
    | none => cases hh
    | some p =>
      obtain ⟨c, u1, σ1⟩ := p
      cases c with
      | false => cases hh
      | true =>
        simp only [cond, Option.some.injEq, Prod.mk.injEq] at hh
        obtain ⟨rfl, rfl⟩ := hh
        exact hr _ _ _ rfl
  obtain ⟨dst, op, type, pos, after, guard⟩ := o
  simp only at hc
  cases op <;> simp only [cls] at hc <;> try (cases hc; done)
  case alloc t =>
    simp only [doV, aOp] at h
    refine fin (fun c u σ1 hr => ?_) h
    split at hr
    · rename_i u1 σ2 ha
      simp only [Option.some.injEq, Prod.mk.injEq] at hr
      obtain ⟨_, _, rfl⟩ := hr
      exact aAlloc_app ha
    · cases hr
  case box t x =>
    simp only [doV, aOp] at h
    refine fin (fun c u σ1 hr => ?_) h
    split at hr
    · rename_i u1 σ2 ha
      simp only [Option.some.injEq, Prod.mk.injEq] at hr
      obtain ⟨_, _, rfl⟩ := hr
      exact aBox_app ha
    · cases hr
  case buildSlice t n ps =>
    simp only [doV, aOp] at h
    exact fin (fun c u σ1 hr => aBuildSlice_app hr) h
  case makeSlice t l c =>
    simp only [doV, aOp] at h
    refine fin (fun c u σ1 hr => ?_) h
    split at hr
    · exact aMake_app hr
    · cases hr
  case call c =>
    split at hc <;> try (cases hc; done)
    split at hc <;> cases hc

/-! ### The same of operations that may not be wanted -/
theorem valF_pure {tt : List TE} {cs : Ctrs} {pc : List Nat} (hp : PureOk cs pc) {ops : List Oper} {o : Oper} {f : List AV} {σ σ' : St} {u : AV} (hc : cls pc o.op = 0) (h : valF tt cs ops o f σ = some (u, σ')) : σ' = σ ∧ ∀ σ₂, valF tt cs ops o f σ₂ = some (u, σ₂) := by
  unfold valF at h ⊢
  split at h
  · exact doV_pure hp hc h
  · split at h
    · rename_i want _ _ b _
      simp only [cnd_eq] at h ⊢
      cases hq : (b == want)
      · rw [hq] at h; simp only [cond, Option.some.injEq, Prod.mk.injEq] at h; obtain ⟨rfl, rfl⟩ := h; exact ⟨rfl, fun _ => (by first | rfl | simp)⟩
      · rw [hq] at h; exact doV_pure hp hc h
    · simp only [Option.some.injEq, Prod.mk.injEq] at h; obtain ⟨rfl, rfl⟩ := h; exact ⟨rfl, fun _ => rfl⟩
    · cases h
theorem valF_load {tt : List TE} {cs : Ctrs} {pc : List Nat} {ops : List Oper} {o : Oper} {f : List AV} {σ σ' : St} {u : AV} (hc : cls pc o.op = 1) (h : valF tt cs ops o f σ = some (u, σ')) : σ' = σ ∧ ∀ B, valF tt cs ops o f (σ ++ [B]) = some (u, σ ++ [B]) := by
  unfold valF at h ⊢
  split at h
  · exact doV_load hc h
  · split at h
    · rename_i want _ _ b _
      simp only [cnd_eq] at h ⊢
      cases hq : (b == want)
      · rw [hq] at h; simp only [cond, Option.some.injEq, Prod.mk.injEq] at h; obtain ⟨rfl, rfl⟩ := h; exact ⟨rfl, fun _ => (by first | rfl | simp)⟩
      · rw [hq] at h; exact doV_load hc h
    · simp only [Option.some.injEq, Prod.mk.injEq] at h; obtain ⟨rfl, rfl⟩ := h; exact ⟨rfl, fun _ => rfl⟩
    · cases h
theorem valF_alloc {tt : List TE} {cs : Ctrs} {pc : List Nat} {ops : List Oper} {o : Oper} {f : List AV} {σ σ' : St} {u : AV} (hc : cls pc o.op = 2) (h : valF tt cs ops o f σ = some (u, σ')) : σ' = σ ∨ ∃ B, σ' = σ ++ [B] := by
  unfold valF at h
  split at h
  · exact .inr (doV_alloc hc h)
  · split at h
    · rename_i want _ _ b _
      simp only [cnd_eq] at h ⊢
      cases hq : (b == want)
      · rw [hq] at h; simp only [cond, Option.some.injEq, Prod.mk.injEq] at h; exact .inl h.2.symm
      · rw [hq] at h; exact .inr (doV_alloc hc h)
    · simp only [Option.some.injEq, Prod.mk.injEq] at h; exact .inl h.2.symm
    · cases h

/-- Two operations that may change places: the first one stands ahead in the text. -/
def indep (pc : List Nat) (ops : Array Oper) (x y : Oper) : Bool :=
  x.apart ops y && (Nat.beq (cls pc x.op) 0 || (Nat.beq (cls pc y.op) 0 || (Nat.beq (cls pc x.op) 1 && (Nat.beq (cls pc y.op) 1 || Nat.beq (cls pc y.op) 2))))

theorem put_put (f : List AV) {x y : Option Nat} (u v : AV) (h : ∀ d, x = some d → y ≠ some d) : put1 (put1 f x u) y v = put1 (put1 f y v) x u := by
  cases x with
  | none => rfl
  | some d => cases y with
    | none => rfl
    | some e =>
      have : d ≠ e := fun he => h d rfl (by rw [he])
      simp only [put1]
      rw [List.set_comm _ _ this]

theorem swap {tt : List TE} {cs : Ctrs} {pc : List Nat} (hp : PureOk cs pc) {ops : Array Oper} {x y : Oper} (hi : indep pc ops x y = true) {f f₁ f₂ : List AV} {σ σ₁ σ₂ : St}
    (h1 : stepF tt cs ops.toList x f σ = some (f₁, σ₁)) (h2 : stepF tt cs ops.toList y f₁ σ₁ = some (f₂, σ₂)) : ∃ g τ, stepF tt cs ops.toList y f σ = some (g, τ) ∧ stepF tt cs ops.toList x g τ = some (f₂, σ₂) := by
  simp only [indep, Bool.and_eq_true, Bool.or_eq_true] at hi
  obtain ⟨hap, hcl⟩ := hi
  obtain ⟨a1, a2, a3⟩ := Oper.apart_spec hap
  unfold stepF at h1 h2
  split at h1
  case h_2 => cases h1
  rename_i ux σx hx
  simp only [Option.some.injEq, Prod.mk.injEq] at h1
  obtain ⟨rfl, rfl⟩ := h1
  split at h2
  case h_2 => cases h2
  rename_i uy σy hy
  simp only [Option.some.injEq, Prod.mk.injEq] at h2
  obtain ⟨rfl, rfl⟩ := h2
  rw [valF_put a1] at hy
  have done : ∀ τ, valF tt cs ops.toList y f σ = some (uy, τ) → valF tt cs ops.toList x f τ = some (ux, σy) → ∃ g τ, stepF tt cs ops.toList y f σ = some (g, τ) ∧ stepF tt cs ops.toList x g τ = some (put1 (put1 f x.dst ux) y.dst uy, σy) := by
    intro τ e1 e2
    refine ⟨put1 f y.dst uy, τ, by unfold stepF; rw [e1], ?_⟩
    unfold stepF
    rw [valF_put a3, e2, put_put f ux uy a2]
  rcases hcl with hcx | hcy | ⟨hcx, hcy⟩
  · obtain ⟨rfl, hx'⟩ := valF_pure hp (Nat.eq_of_beq_eq_true hcx) hx
    exact done _ hy (hx' _)
  · obtain ⟨rfl, hy'⟩ := valF_pure hp (Nat.eq_of_beq_eq_true hcy) hy
    exact done _ (hy' _) hx
  · obtain ⟨rfl, hx'⟩ := valF_load (Nat.eq_of_beq_eq_true hcx) hx
    rcases hcy with hcy | hcy
    · obtain ⟨rfl, _⟩ := valF_load (Nat.eq_of_beq_eq_true hcy) hy
      exact done _ hy hx
    · rcases valF_alloc (Nat.eq_of_beq_eq_true hcy) hy with rfl | ⟨B, rfl⟩
      · exact done _ hy hx
      · exact done _ hy (hx' B)

/-! ### Any order -/
/-- Which operations must be done ahead of one, at once. -/
def bef (o : Oper) : List Nat := (o.after.toList.filter fun e => Region.binds .any e).map (·.on)
/-- And by way of others. -/
def clo (ops : List Oper) : Nat → Nat → List Nat
  | 0, _ => []
  | n + 1, i => match ops[i]? with
    | some o => bef o ++ (bef o).flatMap (clo ops n)
    | none => []

/-- Each operation may be done in any order that is left open. -/
def okDraw (pc : List Nat) (ops : Array Oper) : Bool :=
  (List.range ops.size).all fun i => match ops[i]? with
    | some y => (bef y).all (fun p => Nat.blt p i) && (List.range i).all fun j => (clo ops.toList ops.size i).any (Nat.beq j) || match ops[j]? with
      | some x => indep pc ops x y
      | none => true
    | none => true

/-- Operations by their places. -/
def idxF (tt : List TE) (cs : Ctrs) (ops : Array Oper) : List Nat → List AV → St → Option (List AV × St)
  | [], f, σ => some (f, σ)
  | i :: l, f, σ => match ops[i]? with
    | some o => match stepF tt cs ops.toList o f σ with
      | some (f', σ') => idxF tt cs ops l f' σ'
      | none => none
    | none => none

theorem idx_front {tt : List TE} {cs : Ctrs} {pc : List Nat} (hp : PureOk cs pc) {ops : Array Oper} {i : Nat} {y : Oper} (hy : ops[i]? = some y) {l2 : List Nat} {f2 : List AV} {σ2 : St} : ∀ (l1 : List Nat) (f : List AV) (σ : St), (∀ j ∈ l1, ∀ x, ops[j]? = some x → indep pc ops x y = true) →
    idxF tt cs ops (l1 ++ i :: l2) f σ = some (f2, σ2) → idxF tt cs ops (i :: (l1 ++ l2)) f σ = some (f2, σ2) := by
  intro l1
  induction l1 with
  | nil => intro f σ _ h; exact h
  | cons j l1 ih =>
    intro f σ hi h
    simp only [List.cons_append, idxF] at h
    cases hx : ops[j]? with
    | none => simp [hx] at h
    | some x =>
      simp only [hx] at h
      cases hs : stepF tt cs ops.toList x f σ with
      | none => simp [hs] at h
      | some p =>
        obtain ⟨f1, σ1⟩ := p
        simp only [hs] at h
        have h' := ih f1 σ1 (fun k hk => hi k (List.mem_cons_of_mem _ hk)) h
        simp only [idxF, hy] at h'
        cases hs2 : stepF tt cs ops.toList y f1 σ1 with
        | none => simp [hs2] at h'
        | some p2 =>
          obtain ⟨f3, σ3⟩ := p2
          simp only [hs2] at h'
          obtain ⟨g, τ, e1, e2⟩ := swap hp (hi j (List.mem_cons_self) x hx) hs hs2
          simp only [idxF, hy, e1, List.cons_append, hx, e2]
          exact h'

section
variable {P : Program} {tt : List TE} (ht : TTok P tt) {cs : Ctrs} (hcs : CtrsOk P cs) {pc : List Nat} (hp : PureOk cs pc)
include ht hcs hp

theorem any_ok {ops : Array Oper} (hd : okDraw pc ops = true) {F0 : Nat → Nat → Prop} {W0 : World} {R0 : Nat → Prop} {Q : Exit → Act → World → Prop} {f' : List AV} {σ' : St} (hq : ∀ a' w', Holds F0 W0 R0 f' σ' a' w' → Q .normal a' w') : ∀ (n : Nat) (L : List Nat) (listed : Array Bool) {f : List AV} {σ : St} {a : Act} {w : World}, L.length = n →
    listed.size = ops.size → L.Pairwise (· < ·) → (∀ i, i < ops.size → (i ∈ L ↔ listed.getD i true = false)) → (∀ i ∈ L, i < ops.size) → (∀ i o, i < ops.size → listed.getD i true = true → ops[i]? = some o → ∀ p ∈ bef o, listed.getD p false = true) →
    Holds F0 W0 R0 f σ a w → idxF tt cs ops L f σ = some (f', σ') → wpAny P .any ops Q n listed a w := by
  have hdi : ∀ i y, i < ops.size → ops[i]? = some y → (∀ p ∈ bef y, p < i) ∧ ∀ j x, j < i → ops[j]? = some x → j ∈ clo ops.toList ops.size i ∨ indep pc ops x y = true := by
    intro i y hi hy
    have h1 := List.all_eq_true.1 hd i (List.mem_range.2 hi)
    rw [hy] at h1
    simp only [Bool.and_eq_true] at h1
    refine ⟨fun p hp' => ?_, fun j x hj hx => ?_⟩
    · have := List.all_eq_true.1 h1.1 p hp'
      simpa [Nat.blt_eq] using this
    · have := List.all_eq_true.1 h1.2 j (List.mem_range.2 hj)
      rw [hx] at this
      simp only [Bool.or_eq_true] at this
      rcases this with h | h
      · obtain ⟨z, hz, he⟩ := List.any_eq_true.1 h
        rw [Nat.eq_of_beq_eq_true he]; exact .inl hz
      · exact .inr h
  intro n
  induction n with
  | zero =>
    intro L listed f σ a w hn hsz hpw hL hLlt hdown h hr
    obtain rfl : L = [] := List.eq_nil_of_length_eq_zero hn
    simp only [idxF, Option.some.injEq, Prod.mk.injEq] at hr
    obtain ⟨rfl, rfl⟩ := hr
    refine ⟨?_, hq a w h⟩
    unfold Region.ready
    refine List.filter_eq_nil_iff.2 fun i hi => ?_
    have hi := List.mem_range.1 hi
    have : ¬ listed.getD i true = false := fun e => by have := (hL i hi).2 e; simp at this
    simp [this]
  | succ n ih =>
    intro L listed f σ a w hn hsz hpw hL hLlt hdown h hr
    have hready : ∀ i, i ∈ Region.ready .any ops listed ↔ i < ops.size ∧ listed.getD i true = false ∧ ∀ o, ops[i]? = some o → ∀ p ∈ bef o, listed.getD p false = true := by
      intro i
      unfold Region.ready
      rw [List.mem_filter, List.mem_range]
      constructor
      · rintro ⟨h1, h2⟩
        simp only [Bool.and_eq_true, Bool.not_eq_true'] at h2
        refine ⟨h1, h2.1, fun o ho p hp' => ?_⟩
        have h3 := h2.2
        rw [ho] at h3
        simp only [Option.map_some, Option.getD_some] at h3
        obtain ⟨e, he, rfl⟩ := List.mem_map.1 hp'
        obtain ⟨he1, he2⟩ := List.mem_filter.1 he
        have := (Array.all_eq_true'.1 h3) e (by simpa using he1)
        simpa [he2] using this
      · rintro ⟨h1, h2, h3⟩
        refine ⟨h1, ?_⟩
        simp only [Bool.and_eq_true, Bool.not_eq_true']
        refine ⟨h2, ?_⟩
        have ho : ops[i]? = some ops[i] := Array.getElem?_eq_getElem h1
        rw [ho]
        simp only [Option.map_some, Option.getD_some]
        refine Array.all_eq_true'.2 fun e he => ?_
        cases hb : Region.binds .any e with
        | false => simp
        | true =>
          have := h3 _ ho e.on (List.mem_map.2 ⟨e, List.mem_filter.2 ⟨by simpa using he, hb⟩, rfl⟩)
          simp [this]
    refine ⟨fun hnil => ?_, fun i hi => ?_⟩
    · -- the first one that is left is ready
      exfalso
      cases L with
      | nil => simp at hn
      | cons i L =>
        have hilt := hLlt i (List.mem_cons_self)
        have : i ∈ Region.ready .any ops listed := by
          refine (hready i).2 ⟨hilt, (hL i hilt).1 (List.mem_cons_self), fun o ho p hp' => ?_⟩
          have hpi := (hdi i o hilt ho).1 p hp'
          have hplt : p < ops.size := by omega
          have : p ∉ i :: L := fun hm => by
            rcases List.mem_cons.1 hm with rfl | hm
            · omega
            · have := (List.pairwise_cons.1 hpw).1 p hm; omega
          have h2 : ¬ listed.getD p true = false := fun e => this ((hL p hplt).2 e)
          have h3 : p < listed.size := by omega
          simp only [Array.getD, h3] at h2 ⊢
          simpa using h2
        rw [hnil] at this; cases this
    · obtain ⟨hilt, hil, hbef⟩ := (hready i).1 hi
      have ho : ops[i]? = some ops[i] := Array.getElem?_eq_getElem hilt
      have hmem := (hL i hilt).2 hil
      obtain ⟨L1, L2, rfl⟩ := List.append_of_mem hmem
      -- what must be ahead by way of others is done
      have hclo : ∀ m k, k < ops.size → (∀ o, ops[k]? = some o → ∀ p ∈ bef o, listed.getD p false = true) → ∀ p ∈ clo ops.toList m k, listed.getD p false = true := by
        intro m
        induction m with
        | zero => intro k _ _ p hp'; simp [clo] at hp'
        | succ m ihm =>
          intro k hk hb p hp'
          have hok : ops.toList[k]? = some ops[k] := by simp [hk]
          simp only [clo, hok] at hp'
          rcases List.mem_append.1 hp' with h1 | h1
          · exact hb _ (Array.getElem?_eq_getElem hk) p h1
          · obtain ⟨q, hq1, hq2⟩ := List.mem_flatMap.1 h1
            have hlq := hb _ (Array.getElem?_eq_getElem hk) q hq1
            have hqlt : q < ops.size := by
              have := (hdi k _ hk (Array.getElem?_eq_getElem hk)).1 q hq1; omega
            have hq3 : listed.getD q true = true := by
              have h3 : q < listed.size := by omega
              simp only [Array.getD, h3] at hlq ⊢
              simpa using hlq
            exact ihm q hqlt (fun o ho => hdown q o hqlt hq3 ho) p hq2
      have hind : ∀ j ∈ L1, ∀ x, ops[j]? = some x → indep pc ops x ops[i] = true := by
        intro j hj x hx
        have hji : j < i := by
          have := (List.pairwise_append.1 hpw).2.2 j hj i (List.mem_cons_self); exact this
        rcases (hdi i _ hilt ho).2 j x hji hx with h1 | h1
        · have h2 := hclo _ i hilt hbef j h1
          have h3 := (hL j (by omega)).1 (List.mem_append_left _ hj)
          have h4 : j < listed.size := by omega
          simp only [Array.getD, h4] at h2 h3
          simp at h2 h3
          rw [h2] at h3; cases h3
        · exact h1
      have hfr := idx_front hp ho L1 f σ hind hr
      simp only [idxF, ho] at hfr
      cases hs : stepF tt cs ops.toList ops[i] f σ with
      | none => simp [hs] at hfr
      | some p =>
        obtain ⟨f1, σ1⟩ := p
        simp only [hs] at hfr
        have hset : ∀ k, (listed.setIfInBounds i true).getD k true = if k = i then true else listed.getD k true := by
          intro k
          simp only [Array.getD_eq_getD_getElem?, Array.getElem?_setIfInBounds]
          split
          · rename_i e; subst e; simp; split <;> simp
          · rename_i e; rw [if_neg (Ne.symm e)]
        have hset2 : ∀ k, listed.getD k false = true → (listed.setIfInBounds i true).getD k false = true := by
          intro k hk
          simp only [Array.getD_eq_getD_getElem?, Array.getElem?_setIfInBounds] at hk ⊢
          split
          · rename_i e
            subst e
            have : i < listed.size := by omega
            simp [this]
          · exact hk
        have step := stepF_ok ht hcs h hs (Q := Q) (next := wpAny P .any ops Q n (listed.setIfInBounds i true)) fun a' w' h' => by
          refine ih (L1 ++ L2) _ (by simp at hn ⊢; omega) (by simpa using hsz) ?_ (fun k hk => ?_) (fun k hk => hLlt k ?_) (fun k o hk hkl hko p hp' => ?_) h' hfr
          · have := List.pairwise_append.1 hpw
            exact List.pairwise_append.2 ⟨this.1, (List.pairwise_cons.1 this.2.1).2, fun x hx y hy => this.2.2 x hx y (List.mem_cons_of_mem _ hy)⟩
          · rw [hset]
            have hnd : i ∉ L1 ++ L2 := by
              intro hm
              have := List.pairwise_append.1 hpw
              rcases List.mem_append.1 hm with h1 | h1
              · have := this.2.2 i h1 i (List.mem_cons_self); omega
              · have := (List.pairwise_cons.1 this.2.1).1 i h1; omega
            by_cases hki : k = i
            · subst hki; simp [hnd]
            · rw [if_neg hki, ← hL k hk]
              simp only [List.mem_append, List.mem_cons, hki, false_or]
          · rcases List.mem_append.1 hk with h1 | h1
            · exact List.mem_append_left _ h1
            · exact List.mem_append_right _ (List.mem_cons_of_mem _ h1)
          · rw [hset] at hkl
            by_cases hki : k = i
            · subst hki
              rw [ho] at hko
              obtain rfl := Option.some.inj hko
              exact hset2 p (hbef _ ho p hp')
            · rw [if_neg hki] at hkl
              exact hset2 p (hdown k o hk hkl hko p hp')
        unfold wpOp
        rw [ho]
        simp only
        split
        · rename_i hw; rw [if_pos hw] at step; exact .inl step
        · rename_i hw; rw [if_neg hw] at step; exact step

omit ht hcs hp in
theorem idx_ops {ops : Array Oper} : ∀ (l : List Oper) (k : Nat), (∀ j, l[j]? = ops[k + j]?) → ∀ (f : List AV) (σ : St), idxF tt cs ops (List.range' k l.length) f σ = opsF tt cs ops.toList l f σ := by
  intro l
  induction l with
  | nil => intro k _ f σ; rfl
  | cons o l ih =>
    intro k h f σ
    have h0 : ops[k]? = some o := by simpa using (h 0).symm
    simp only [List.length_cons, List.range'_succ, idxF, h0, opsF]
    cases stepF tt cs ops.toList o f σ with
    | none => rfl
    | some p => exact ih (k + 1) (fun j => by have := h (j + 1); simpa [Nat.add_assoc, Nat.add_comm 1 j] using this) p.1 p.2

/-- A region that draws its order. -/
theorem draw_ok {ops : Array Oper} (hm : P.follows .mixedOrders = true) (hd : okDraw pc ops = true) {F0 : Nat → Nat → Prop} {W0 : World} {R0 : Nat → Prop} {Q : Exit → Act → World → Prop} {f f' : List AV} {σ σ' : St} {a : Act} {w : World} {id : Nat}
    (h : Holds F0 W0 R0 f σ a w) (hr : opsF tt cs ops.toList ops.toList f σ = some (f', σ')) (hq : ∀ a' w', Holds F0 W0 R0 f' σ' a' w' → Q .normal a' w') : (Code.region id ops true).wp P Q a w := by
  refine wp_region_any hm ?_
  refine any_ok ht hcs hp hd hq ops.size (List.range' 0 ops.toList.length) (Array.replicate ops.size false) (by simp) (by simp) List.pairwise_lt_range' (fun i hi => by simp [hi]) (fun i hi => by simpa using hi) (fun i o hi hl => by simp [hi] at hl) ?_ (by rw [idx_ops ops.toList 0 (fun j => by simp)]; exact hr)
  obtain ⟨R, φ, hR, hR', hrel, hdf⟩ := h
  refine ⟨R, φ, hR, hR', ?_, hdf⟩
  have hk : Keep (fun _ _ => False) w { w with drawn := w.drawn + 1 } := Keep.drew _ w
  have hcalm : Calm R w { w with drawn := w.drawn + 1 } := hk.calm fun _ _ h => h.elim
  exact ⟨⟨fun l B e => (hrel.sim.blk l B e).kept hk (fun _ h => h) (fun _ _ h => h.elim) (fun _ _ _ h => h.elim) (Ext.refl _), hrel.sim.sep, hrel.sim.ro, hrel.sim.old, hrel.sim.dom⟩,
    fun t u hu => (hrel.fr t u hu).mono (fun _ h => h) hcalm hk.room_le (Ext.refl _), hrel.reg, hrel.keep.trans hk fun _ _ h => h.elim, hrel.len⟩
end
end Go.Proofs.Ytohgniddfpjjfaa.E
