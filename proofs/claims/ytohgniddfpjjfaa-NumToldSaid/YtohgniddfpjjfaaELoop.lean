/- The engine, part 20: loops. -/
import Derived.Test.YtohgniddfpjjfaaECode
import Derived.LoopN
namespace Go.Proofs.Ytohgniddfpjjfaa.E
open Go
set_option linter.unusedSimpArgs false
set_option linter.unusedVariables false

/-- What is told of a loop by a family of states at its head. -/
def loopO {β : Type} (inv : β → Prop) (hf : β → List AV) (hs : β → St) (out : β → Cont → Prop) : Orc := fun f σ K => ∃ x, inv x ∧ Cov (hf x) (hs x) f σ ∧ out x K
/-- What holds behind a round. -/
def After {β : Type} (inv : β → Prop) (hf : β → List AV) (hs : β → St) (out : β → Cont → Prop) (μ : β → Nat) (x : β) (K : Cont) : Ex → List AV → St → Prop
  | .normal, f, σ => ∃ y, inv y ∧ μ y < μ x ∧ Cov (hf y) (hs y) f σ ∧ out y K
  | e, f, σ => ∃ f0 σ0, Cov f0 σ0 f σ ∧ K e f0 σ0
def runL (X : Cx) (body : Code) (os : List Orc) (f : List AV) (σ : St) (A : Ex → List AV → St → Prop) : Option Prop :=
  normF f fun f => normL σ fun σ => runC X body os f σ fun e f σ => some (A e f σ)

theorem loop_ok {P : Program} {X : Cx} (hX : CxOk P X) {body : Code} {β : Type} {os : β → List Orc} (hos : ∀ x, OrcL P (bodies body) (os x)) {inv : β → Prop} {hf : β → List AV} {hs : β → St} {out : β → Cont → Prop} (μ : β → Nat)
    (step : ∀ x K, inv x → out x K → tr (runL X body (os x) (hf x) (hs x) (After inv hf hs out μ x K))) : OrcOk P body (loopO inv hf hs out) := by
  intro f σ K ho F0 W0 R0 a w hh
  obtain ⟨x, hi, hc, ho⟩ := ho
  have main : ∀ n x a w, μ x < n → inv x → Holds F0 W0 R0 (hf x) (hs x) a w → out x K → Code.rounds P body (fun e' a' w' => ∃ e f' σ', e' = Ex.to e ∧ Holds F0 W0 R0 f' σ' a' w' ∧ K e f' σ') n a w := by
    intro n
    induction n with
    | zero => intro x a w h; omega
    | succ n ih =>
      intro x a w hn hi hh ho
      have h := step x K hi ho
      unfold runL at h
      rw [normF_eq, normL_eq] at h
      rw [rounds_succ]
      refine runC_ok hX body (os x) (orcs_ok _ _ (hos x)) hh h fun e f' σ' a' w' h' hk => ?_
      cases e with
      | normal =>
        obtain ⟨y, hy, hm, hc, hoy⟩ := hk
        exact ih y a' w' (by omega) hy (hc.holds h') hoy
      | exit id =>
        obtain ⟨f0, σ0, hc, hk⟩ := hk
        exact ⟨.exit id, f0, σ0, rfl, hc.holds h', hk⟩
      | ret =>
        obtain ⟨f0, σ0, hc, hk⟩ := hk
        exact ⟨.ret, f0, σ0, rfl, hc.holds h', hk⟩
  exact wp_loop_rounds (μ x + 1) (main _ x a w (by omega) hi (hc.holds hh) ho)

/-- Into a loop. -/
theorem enter {β : Type} {inv : β → Prop} {hf : β → List AV} {hs : β → St} {out : β → Cont → Prop} {f : List AV} {σ : St} {K : Cont} (x : β) (ρ : List Nat) (hi : inv x) (hn : ρ.Nodup) (h1 : FitL ρ σ (hf x) f) (h2 : FitS ρ σ ρ (hs x)) (ho : out x K) : tr (some (loopO inv hf hs out f σ K)) := ⟨x, hi, ⟨ρ, hn, h1, h2⟩, ho⟩
/-- Another round. -/
theorem again {β : Type} {inv : β → Prop} {hf : β → List AV} {hs : β → St} {out : β → Cont → Prop} {μ : β → Nat} {x : β} {f : List AV} {σ : St} {K : Cont} (y : β) (ρ : List Nat) (hi : inv y) (hm : μ y < μ x) (hn : ρ.Nodup) (h1 : FitL ρ σ (hf y) f) (h2 : FitS ρ σ ρ (hs y)) (ho : out y K) : tr (some (After inv hf hs out μ x K .normal f σ)) := ⟨y, hi, hm, ⟨ρ, hn, h1, h2⟩, ho⟩
/-- Out of a loop. -/
theorem leave {β : Type} {inv : β → Prop} {hf : β → List AV} {hs : β → St} {out : β → Cont → Prop} {μ : β → Nat} {x : β} {id : Nat} {f f0 : List AV} {σ σ0 : St} {K : Cont} (hk : K (.exit id) f0 σ0) (ρ : List Nat) (hn : ρ.Nodup) (h1 : FitL ρ σ f0 f) (h2 : FitS ρ σ ρ σ0) : tr (some (After inv hf hs out μ x K (.exit id) f σ)) := ⟨f0, σ0, ⟨ρ, hn, h1, h2⟩, hk⟩
theorem leaveRet {β : Type} {inv : β → Prop} {hf : β → List AV} {hs : β → St} {out : β → Cont → Prop} {μ : β → Nat} {x : β} {f f0 : List AV} {σ σ0 : St} {K : Cont} (hk : K .ret f0 σ0) (ρ : List Nat) (hn : ρ.Nodup) (h1 : FitL ρ σ f0 f) (h2 : FitS ρ σ ρ σ0) : tr (some (After inv hf hs out μ x K .ret f σ)) := ⟨f0, σ0, ⟨ρ, hn, h1, h2⟩, hk⟩

/-- A frame of n slots, these of which are told. -/
def frm (n : Nat) (l : List (Nat × AV)) : List AV := (List.range n).map fun k => match l.find? fun p => Nat.beq p.1 k with | some p => p.2 | none => .dead
end Go.Proofs.Ytohgniddfpjjfaa.E
