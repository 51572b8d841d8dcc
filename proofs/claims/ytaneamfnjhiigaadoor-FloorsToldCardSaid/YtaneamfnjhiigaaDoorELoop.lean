/- The engine, part 23: loops; contexts one behind the other. -/
import Derived.Test.YtaneamfnjhiigaaDoorEFn
namespace Go.Proofs.YtaneamfnjhiigaaDoor.E
open Go
set_option linter.unusedSimpArgs false
set_option linter.unusedVariables false

section
variable {β : Type} {nb : Nat} {inv : β → Prop} {hf : β → List AV} {hs : β → St} {μ : β → Nat} {f f0 : List AV} {σ σ0 : St}
/-- Into a loop. -/
theorem loopIn {round : List AV → St → (Ex → List AV → St → Prop) → Option Prop} {K : Ex → List AV → St → Prop} (inv : β → Prop) (hf : β → List AV) (hs : β → St) (μ : β → Nat) (x : β) (ρ : List Nat) (hi : inv x) (hn : ρ.Nodup) (h1 : FitL ρ σ (hf x) f) (h2 : FitS ρ σ ρ (hs x)) (hid : idUpto nb ρ = true)
    (step : ∀ x, inv x → tr (normF (hf x) fun f => normL (hs x) fun σ => round f σ (After nb inv hf hs μ x K))) : tr (some (LoopP nb round f σ K)) := ⟨β, inv, hf, hs, μ, x, hi, .mk ρ hn h1 h2 hid, step⟩
theorem loopInC {round : List AV → St → (Ex → List AV → St → Prop) → Option Prop} {K : Ex → List AV → St → Prop} (inv : β → Prop) (hf : β → List AV) (hs : β → St) (μ : β → Nat) (x : β) (hi : inv x) (hc : Cov nb (hf x) (hs x) f σ)
    (step : ∀ x, inv x → tr (normF (hf x) fun f => normL (hs x) fun σ => round f σ (After nb inv hf hs μ x K))) : tr (some (LoopP nb round f σ K)) := ⟨β, inv, hf, hs, μ, x, hi, hc, step⟩
theorem againC {x : β} {K : Ex → List AV → St → Prop} (y : β) (hi : inv y) (hm : μ y < μ x) (hc : Cov nb (hf y) (hs y) f σ) : tr (some (After nb inv hf hs μ x K .normal f σ)) := ⟨y, hi, hm, hc⟩
theorem leaveC {x : β} {K : Ex → List AV → St → Prop} {id : Nat} (f0 : List AV) (σ0 : St) (hc : Cov nb f0 σ0 f σ) (hk : K (.exit id) f0 σ0) : tr (some (After nb inv hf hs μ x K (.exit id) f σ)) := .inr ⟨f0, σ0, hc, hk⟩
/-- Another round. -/
theorem again {x : β} {K : Ex → List AV → St → Prop} (y : β) (ρ : List Nat) (hi : inv y) (hm : μ y < μ x) (hn : ρ.Nodup) (h1 : FitL ρ σ (hf y) f) (h2 : FitS ρ σ ρ (hs y)) (hid : idUpto nb ρ = true) : tr (some (After nb inv hf hs μ x K .normal f σ)) := ⟨y, hi, hm, .mk ρ hn h1 h2 hid⟩
/-- Out of a loop. -/
theorem leave {x : β} {K : Ex → List AV → St → Prop} {id : Nat} (hk : K (.exit id) f σ) : tr (some (After nb inv hf hs μ x K (.exit id) f σ)) := .inl hk
theorem leaveRet {x : β} {K : Ex → List AV → St → Prop} (hk : K .ret f σ) : tr (some (After nb inv hf hs μ x K .ret f σ)) := .inl hk
theorem leaveAs {x : β} {K : Ex → List AV → St → Prop} {id : Nat} (f0 : List AV) (σ0 : St) (ρ : List Nat) (hn : ρ.Nodup) (h1 : FitL ρ σ f0 f) (h2 : FitS ρ σ ρ σ0) (hid : idUpto nb ρ = true) (hk : K (.exit id) f0 σ0) : tr (some (After nb inv hf hs μ x K (.exit id) f σ)) := .inr ⟨f0, σ0, .mk ρ hn h1 h2 hid, hk⟩
end

section
variable {β : Type} {nb : Nat} {inv : β → Prop} {hf : β → List AV} {hs : β → St} {f : List AV} {σ : St}
/-- Where ways come together. -/
theorem joinIn {first : (List AV → St → Prop) → Option Prop} {rest : List AV → St → Prop} (inv : β → Prop) (hf : β → List AV) (hs : β → St) (h1 : tr (first fun f σ => ∃ y, inv y ∧ Cov nb (hf y) (hs y) f σ)) (h2 : ∀ y, inv y → rest (hf y) (hs y)) :
    tr (some (JoinP nb first rest)) := ⟨β, inv, hf, hs, h1, h2⟩
theorem joinTo (y : β) (ρ : List Nat) (hi : inv y) (hn : ρ.Nodup) (h1 : FitL ρ σ (hf y) f) (h2 : FitS ρ σ ρ (hs y)) (hid : idUpto nb ρ = true) : tr (some (∃ y, inv y ∧ Cov nb (hf y) (hs y) f σ)) := ⟨y, hi, .mk ρ hn h1 h2 hid⟩
theorem joinToC (y : β) (hi : inv y) (hc : Cov nb (hf y) (hs y) f σ) : tr (some (∃ y, inv y ∧ Cov nb (hf y) (hs y) f σ)) := ⟨y, hi, hc⟩
end
/-- Ways come together behind a test of the slot n (k = n), behind the block id (k = 100000 + id), or behind the region id (k = 200000 + id). -/
def Cx.join (X : Cx) (k : Nat) : Cx := ⟨X.tt, X.cs, (1000000000 + k, .pure) :: X.kd, X.ks⟩
theorem CxOk.join {P : Program} {X : Cx} (hX : CxOk P X) (k : Nat) (h : ctr X.cs (1000000000 + k) = none) : CxOk P (X.join k) where
  tt := hX.tt
  cs := hX.cs
  kd g' k' G' h1 h2 := by
    simp only [Cx.join, kindOf, List.find?] at h1 h2
    cases hb : Nat.beq (1000000000 + k) g' with
    | true =>
      obtain rfl := Nat.eq_of_beq_eq_true hb
      rw [h] at h2
      cases h2
    | false =>
      simp only [hb] at h1
      exact hX.kd g' k' G' h1 h2
  ks := hX.ks
  mixed := hX.mixed

/-- A frame of n slots, these of which are told. -/
def frm (n : Nat) (l : List (Nat × AV)) : List AV := (List.range n).map fun k => match l.find? fun p => Nat.beq p.1 k with | some p => p.2 | none => .dead

/-! ### Contexts -/
theorem CxOk.nil {P : Program} {tt : List TE} (ht : TTok P tt) (hm : P.follows .mixedOrders = true) : CxOk P ⟨tt, [], [], []⟩ :=
  ⟨ht, fun p h => by simp at h, fun g k G h => by simp [kindOf] at h, fun p h => by simp at h, hm⟩
/-- One more function, of a kind. -/
def Cx.add (X : Cx) (g : Nat) (k : Kind) (G : Ctr) : Cx := ⟨X.tt, (g, G) :: X.cs, (g, k) :: X.kd, X.ks⟩
/-- One more function that is run where it is called. -/
def Cx.addRun (X : Cx) (g : Nat) (T : Run) : Cx := ⟨X.tt, X.cs, X.kd, (g, T) :: X.ks⟩
theorem CxOk.add {P : Program} {X : Cx} (hX : CxOk P X) {g : Nat} {k : Kind} {G : Ctr} (hG : CtrOk P g G) (hk : KindOk G k) : CxOk P (X.add g k G) where
  tt := hX.tt
  cs p hp := by
    rcases List.mem_cons.1 hp with rfl | hp
    · exact hG
    · exact hX.cs p hp
  kd g' k' G' h1 h2 := by
    simp only [Cx.add, kindOf, ctr, List.find?] at h1 h2
    cases hb : Nat.beq g g' with
    | true =>
      simp only [hb, Option.some.injEq] at h1 h2
      subst h1 h2
      exact hk
    | false =>
      simp only [hb] at h1 h2
      exact hX.kd g' k' G' h1 h2
  ks := hX.ks
  mixed := hX.mixed
theorem CxOk.pure {P : Program} {X : Cx} (hX : CxOk P X) {g : Nat} {G : List AV → Option (Bool × AV)} (hG : CtrOk P g (pureCtr G)) : CxOk P (X.add g .pure (pureCtr G)) := hX.add hG (pureCtr_pure G)
theorem CxOk.addRun {P : Program} {X : Cx} (hX : CxOk P X) {g : Nat} {T : Run} (hT : RunOk P g T) : CxOk P (X.addRun g T) where
  tt := hX.tt
  cs := hX.cs
  kd := hX.kd
  ks p hp := by
    rcases List.mem_cons.1 hp with rfl | hp
    · exact hT
    · exact hX.ks p hp
  mixed := hX.mixed
/-! ### Loops, by what they change -/
def hasN (k : Nat) : List Nat → Bool
  | [] => false
  | l :: ls => match Nat.beq l k with
    | true => true
    | false => hasN k ls
/-- A frame of which these slots live, but for those that are told. -/
def keepF (live : List Nat) (l : List (Nat × AV)) : Nat → List AV → List AV
  | _, [] => []
  | k, u :: f => (match l.find? fun p => Nat.beq p.1 k with | some p => p.2 | none => match hasN k live with | true => u | false => .dead) :: keepF live l (k + 1) f
/-- A state, but for the roots that are told. -/
def modS (l : List (Nat × Blk)) : Nat → St → St
  | _, [] => []
  | k, B :: σ => (match l.find? fun p => Nat.beq p.1 k with | some p => p.2 | none => B) :: modS l (k + 1) σ
theorem range_nodup (n : Nat) : (List.range n).Nodup := List.nodup_range
section
variable {β : Type} {nb : Nat} {f f' : List AV} {σ σ' : St}
/-- Into a loop that changes these slots, and these roots. -/
theorem loopM {round : List AV → St → (Ex → List AV → St → Prop) → Option Prop} {K : Ex → List AV → St → Prop} (live : List Nat) (inv : β → Prop) (sl : β → List (Nat × AV)) (rt : β → List (Nat × Blk)) (μ : β → Nat) (x : β) (hi : inv x) (hid : idUpto nb (List.range σ.length) = true)
    (h1 : FitL (List.range σ.length) σ (keepF live (sl x) 0 f) f) (h2 : FitS (List.range σ.length) σ (List.range σ.length) (modS (rt x) 0 σ))
    (step : ∀ x, inv x → tr (normF (keepF live (sl x) 0 f) fun f' => normL (modS (rt x) 0 σ) fun σ' => round f' σ' (After nb inv (fun x => keepF live (sl x) 0 f) (fun x => modS (rt x) 0 σ) μ x K))) : tr (some (LoopP nb round f σ K)) :=
  loopIn inv _ _ μ x _ hi List.nodup_range h1 h2 hid step
/-- Into a loop that changes these slots, and these roots; further roots behind them. -/
theorem loopX {round : List AV → St → (Ex → List AV → St → Prop) → Option Prop} {K : Ex → List AV → St → Prop} (live : List Nat) (inv : β → Prop) (sl : β → List (Nat × AV)) (rt : β → List (Nat × Blk)) (ex : β → St) (ρe : List Nat) (μ : β → Nat) (x : β) (hi : inv x) (hu : uniqB (List.range σ.length ++ ρe) (modS (rt x) 0 σ ++ ex x) = true) (hid : idUpto nb (List.range σ.length ++ ρe) = true)
    (h1 : FitL (List.range σ.length ++ ρe) σ (keepF live (sl x) 0 f) f) (h2 : FitS (List.range σ.length ++ ρe) σ (List.range σ.length ++ ρe) (modS (rt x) 0 σ ++ ex x))
    (step : ∀ x, inv x → tr (normF (keepF live (sl x) 0 f) fun f' => normL (modS (rt x) 0 σ ++ ex x) fun σ' => round f' σ' (After nb inv (fun x => keepF live (sl x) 0 f) (fun x => modS (rt x) 0 σ ++ ex x) μ x K))) : tr (some (LoopP nb round f σ K)) :=
  loopInC inv _ _ μ x hi (.mkd _ hu h1 h2 hid) step
theorem againD {inv : β → Prop} {hf : β → List AV} {hs : β → St} {μ : β → Nat} {x : β} {K : Ex → List AV → St → Prop} (y : β) (ρ : List Nat) (hi : inv y) (hm : μ y < μ x) (hn : uniqB ρ (hs y) = true) (h1 : FitL ρ σ (hf y) f) (h2 : FitS ρ σ ρ (hs y)) (hid : idUpto nb ρ = true) : tr (some (After nb inv hf hs μ x K .normal f σ)) := ⟨y, hi, hm, .mkd ρ hn h1 h2 hid⟩
theorem joinM {first : (List AV → St → Prop) → Option Prop} {rest : List AV → St → Prop} (live : List Nat) (inv : β → Prop) (sl : β → List (Nat × AV)) (rt : β → List (Nat × Blk)) (f : List AV) (σ : St) (h1 : tr (first fun f' σ' => ∃ y, inv y ∧ Cov nb (keepF live (sl y) 0 f) (modS (rt y) 0 σ) f' σ')) (h2 : ∀ y, inv y → rest (keepF live (sl y) 0 f) (modS (rt y) 0 σ)) :
    tr (some (JoinP nb first rest)) := joinIn inv (fun y => keepF live (sl y) 0 f) (fun y => modS (rt y) 0 σ) h1 h2
end
end Go.Proofs.YtaneamfnjhiigaaDoor.E
