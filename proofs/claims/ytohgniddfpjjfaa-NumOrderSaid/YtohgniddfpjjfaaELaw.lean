/- The engine, part 19: a law of it. -/
import Derived.Test.YtohgniddfpjjfaaECode
import Derived.Below
namespace Go.Proofs.Ytohgniddfpjjfaa.E
open Go Go.RowKit
set_option linter.unusedSimpArgs false
set_option linter.unusedVariables false

/-- A law that answers true from values that hang on no root, in a world that it leaves as it was. -/
theorem law_calls {P : Program} {X : Cx} (hX : CxOk P X) {g : Nat} {fn : Func} (hg : P.funcs[g]? = some fn) (hc : fn.body = some (bodyOf fn)) {os : List Orc} (hos : OrcsOk P (bodyOf fn) os) {args : List AV} (hr : runU X fn os args [] = some (boo true))
    {vals : List Value} {W : World} (hl : args.length = vals.length) (hv : ∀ (k : Nat) (u : AV) (x : Value), args[k]? = some u → vals[k]? = some x → VR (fun b => b < W.heap.size) (fun _ => none) W u x) :
    Calls P g vals.toArray W fun e W' => e = .returned (.bool true) ∧ Below W.heap.size W W' := by
  obtain ⟨σ', hr⟩ := runU_some hr
  refine (runF_ok hX hg hc hos hr (F0 := fun _ _ => False) (R := fun b => b < W.heap.size) (φ := fun _ => none) ⟨fun l B h => by simp at h, fun l l' B B' _ h => by simp at h, fun l B h => by simp at h, fun _ h => h, fun _ _ => rfl⟩ (fun l B h => by simp at h) hl hv).mono fun e W' h => ?_
  obtain ⟨v, R', φ', f', tmps', rfl, _, _, hrel, hval⟩ := h
  refine ⟨congrArg Ending.returned hval.val, ?_⟩
  have k := hrel.keep
  exact ⟨k.os, k.tape, k.output, k.size, fun b hb => k.obj b hb fun _ h => h⟩

theorem vr_int {R : Nat → Prop} {φ : Phi} {W : World} (K : IntKind) (n : Int) : VR R φ W (.v (.int K n)) (.int K n) := .imm (.v _)
theorem vr_bool {R : Nat → Prop} {φ : Phi} {W : World} (b : Bool) : VR R φ W (.v (.bool b)) (.bool b) := .imm (.v _)

/-- Arguments of a law, one by one. -/
theorem args0 {R : Nat → Prop} {φ : Phi} {W : World} : ∀ (k : Nat) (u : AV) (x : Value), ([] : List AV)[k]? = some u → ([] : List Value)[k]? = some x → VR R φ W u x := fun k u x h => by simp at h
theorem args1 {R : Nat → Prop} {φ : Phi} {W : World} {u : AV} {x : Value} {us : List AV} {xs : List Value} (h : VR R φ W u x) (hs : ∀ (k : Nat) (u : AV) (x : Value), us[k]? = some u → xs[k]? = some x → VR R φ W u x) :
    ∀ (k : Nat) (w : AV) (y : Value), (u :: us)[k]? = some w → (x :: xs)[k]? = some y → VR R φ W w y := fun k w y hw hy => by
  cases k with
  | zero => simp at hw hy; subst hw hy; exact h
  | succ k => exact hs k w y (by simpa using hw) (by simpa using hy)
end Go.Proofs.Ytohgniddfpjjfaa.E
