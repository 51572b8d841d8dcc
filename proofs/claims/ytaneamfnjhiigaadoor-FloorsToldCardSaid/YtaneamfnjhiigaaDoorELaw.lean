/- The engine, part 26: a law of it. -/
import Derived.Test.YtaneamfnjhiigaaDoorELib
import Derived.Below
namespace Go.Proofs.YtaneamfnjhiigaaDoor.E
open Go Go.RowKit
set_option linter.unusedSimpArgs false
set_option linter.unusedVariables false

/-- A law that answers true from values that hang on no root, in a world that it leaves as it was. -/
theorem law_calls {P : Program} {X : Cx} (hX : CxOk P X) {g : Nat} {fn : Func} (hg : P.funcs[g]? = some fn) (hnm : (fn.name == "runtime.NumGoroutine") = false) (hc : fn.body = some (bodyOf fn)) {args : List AV} (hr : runF X fn args [] (boo true) [])
    {vals : List Value} {W : World} (hl : args.length = vals.length) (hv : ∀ (k : Nat) (u : AV) (x : Value), args[k]? = some u → vals[k]? = some x → VR (fun b => b < W.heap.size) (fun _ => none) W u x) (hgl : Globs (fun b => b < W.heap.size) W := by intro p hp; exact absurd hp (by simp [globs])) :
    Calls P g vals.toArray W fun e W' => e = .returned (.bool true) ∧ Below W.heap.size W W' := by
  refine (runF_ok hX hg hnm hc hr (R := fun b => b < W.heap.size) (φ := fun _ => none) (sim_nil ⟨fun _ h => h, hgl⟩) ⟨hl, hv⟩).mono fun e W' h => ?_
  obtain ⟨v, R', φ', rfl, T, hval⟩ := h
  refine ⟨congrArg Ending.returned hval.val, ?_⟩
  have k := T.keep
  exact ⟨k.os, k.tape, k.output, k.size, fun b hb => k.obj b hb fun _ ⟨l, B, e, _⟩ => by simp at e⟩

theorem vr_int {R : Nat → Prop} {φ : Phi} {W : World} (K : IntKind) (n : Int) : VR R φ W (.v (.int K n)) (.int K n) := .imm (.v _)
theorem vr_bool {R : Nat → Prop} {φ : Phi} {W : World} (b : Bool) : VR R φ W (.v (.bool b)) (.bool b) := .imm (.v _)

/-- A row of whole numbers that came as an argument. -/
theorem vr_row {φ : Phi} {W : World} {k : IntKind} {a : Option Addr} {len cap : Nat} {zs : List Int} (hm : len < 281474976710656)
    (h : (a = none ∧ len = 0) ∨ ∃ x, a = some x ∧ len ≤ cap ∧ len ≤ zs.length ∧ ∀ i, i < zs.length → W.cell? (x.add i) = some (.int k (zs.getD i 0))) :
    VR (fun b => b < W.heap.size) φ W (.i 1 (zs.take len).length fun i => [.v (.int k ((zs.take len).getD i 0))]) (.slice a len cap) := by
  rcases h with ⟨rfl, rfl⟩ | ⟨x, rfl, hc, hz, hcell⟩
  · exact .imm (.nil _ _ _ _)
  · have hl : (zs.take len).length = len := by rw [List.length_take]; omega
    rw [hl]
    by_cases h0 : len = 0
    · subst h0; exact .imm (.nil _ _ _ _)
    · obtain ⟨b, o, sp⟩ := x
      have c0 := hcell 0 (by omega)
      have hsp : sp = none := by
        simp only [Addr.add, if_true, World.cell?] at c0
        split at c0
        · split at c0
          · cases c0
          · rename_i hn; simpa using hn
        · cases c0
      subst hsp
      have hb : b < W.heap.size := by
        simp only [Addr.add, if_true, World.cell?] at c0
        split at c0
        · rename_i hh; exact (Array.getElem?_eq_some_iff.1 hh).1
        · cases c0
      have hadd : ∀ i, (Addr.mk b o none).add i = ⟨b, o + i, none⟩ := fun i => by
        unfold Addr.add; split
        · rename_i h; subst h; rfl
        · rfl
      refine .imm (.i (fun i _ => .int k (zs.getD i 0)) hb hc (fun _ _ => rfl) (fun i j u hi hu => ?_) (fun i j u hi hu => ?_) (fun _ _ _ _ _ => rfl) (by decide) (by omega))
      all_goals
        obtain rfl : j = 0 := by
          rcases j with _ | j
          · rfl
          · simp at hu
        have hg : (zs.take len).getD i 0 = zs.getD i 0 := by simp [List.getD_eq_getElem?_getD, List.getElem?_take, hi]
        simp only [List.getElem?_cons_zero, Option.some.injEq, hg] at hu
        subst hu
      · have := hcell i (by omega)
        rw [hadd] at this
        simpa using this
      · exact .v _

/-- Arguments of a law, one by one. -/
theorem args0 {R : Nat → Prop} {φ : Phi} {W : World} : ∀ (k : Nat) (u : AV) (x : Value), ([] : List AV)[k]? = some u → ([] : List Value)[k]? = some x → VR R φ W u x := fun k u x h => by simp at h
theorem args1 {R : Nat → Prop} {φ : Phi} {W : World} {u : AV} {x : Value} {us : List AV} {xs : List Value} (h : VR R φ W u x) (hs : ∀ (k : Nat) (u : AV) (x : Value), us[k]? = some u → xs[k]? = some x → VR R φ W u x) :
    ∀ (k : Nat) (w : AV) (y : Value), (u :: us)[k]? = some w → (x :: xs)[k]? = some y → VR R φ W w y := fun k w y hw hy => by
  cases k with
  | zero => simp at hw hy; subst hw hy; exact h
  | succ k => exact hs k w y (by simpa using hw) (by simpa using hy)
end Go.Proofs.YtaneamfnjhiigaaDoor.E
