/- Arguments of laws. -/
import Derived.Test.YthdeehkmlaejfaaSiteE
import Derived.Test.YthdeehkmlaejfaaEngE
namespace Go.Proofs.Ythdeehkmlaejfaa.E
open Go Go.RowKit
set_option linter.unusedSimpArgs false
set_option maxRecDepth 100000

theorem site_arg {u : AV} (h : isArg tt 23 u) : ∃ s : Site, u = s.av := by
  obtain ⟨_, ⟨_, _, rfl, ⟨a1, rfl, w1⟩, _, _, rfl, ⟨a2, rfl, w2⟩, _, _, rfl, ⟨a3, rfl, w3⟩, _, _, rfl, ⟨a4, rfl, w4⟩, _, _, rfl, ⟨a5, rfl, w5⟩, _, _, rfl, ⟨a6, rfl, w6⟩, _, _, rfl, ⟨a7, rfl, w7⟩, _, _, rfl, ⟨a8, rfl, w8⟩, _, _, rfl, ⟨a9, rfl, w9⟩, _, _, rfl, ⟨a10, rfl, w10⟩, _, _, rfl, ⟨a11, rfl, w11⟩, _, _, rfl, ⟨a12, rfl, w12⟩, _, _, rfl, ⟨a13, rfl, w13⟩, rfl⟩, rfl⟩ := h
  exact ⟨⟨a1, a2, a3, a4, a5, a6, a7, a8, a9, a10, a11, a12, a13⟩, rfl⟩
theorem int_arg {u : AV} (h : isArg tt 3 u) : ∃ n : Int, u = i64 n ∧ -9223372036854775808 ≤ n ∧ n ≤ 9223372036854775807 := by
  obtain ⟨n, e, w⟩ := h
  exact ⟨n, (List.cons.inj e).1, wf_i64 w⟩
theorem bool_arg {u : AV} (h : isArg tt 4 u) : ∃ b : Bool, u = boo b := by
  obtain ⟨n, e⟩ := h
  exact ⟨n, (List.cons.inj e).1⟩
theorem ints_row {u : AV} (h : isArg tt 40 u) : ∃ l : List Int, u = row eI l ∧ l.length < 281474976710656 ∧ ∀ x ∈ l, -9223372036854775808 ≤ x ∧ x ≤ 9223372036854775807 := by
  obtain ⟨m, g, e, hm, hg, hz⟩ := h
  obtain rfl := (List.cons.inj e).1
  exact row_eq eI (m := m) (g := g) (p := fun x => -9223372036854775808 ≤ x ∧ x ≤ 9223372036854775807) (fun k hk => by obtain ⟨z, hz, hw⟩ := hg k hk; exact ⟨z, hz, wf_i64 hw⟩) hz (by have : m * 1 < 281474976710656 := hm; omega)
/-- A law that answers true from what its arguments fit. -/
theorem law_callsC {P : Program} {X : Cx} (hX : CxOk P X) {g : Nat} {fn : Func} (hg : P.funcs[g]? = some fn) (hnm : (fn.name == "runtime.NumGoroutine") = false) (hc : fn.body = some (bodyOf fn)) {args : List AV} (hr : ∃ args', FitL [] [] args' args ∧ runF X fn args' [] (boo true) [])
    {vals : List Value} {W : World} (hl : args.length = vals.length) (hv : ∀ (k : Nat) (u : AV) (x : Value), args[k]? = some u → vals[k]? = some x → VR (fun b => b < W.heap.size) (fun _ => none) W u x) (hgl : Globs (fun b => b < W.heap.size) W := by intro p hp; exact absurd hp (by simp [globs])) :
    Calls P g vals.toArray W fun e W' => e = .returned (.bool true) ∧ Below W.heap.size W W' := by
  obtain ⟨args', hf, hr⟩ := hr
  have hs0 : Sim (fun b => b < W.heap.size) (fun _ => none) [] W := sim_nil ⟨fun _ h => h, hgl⟩
  have hren : (ren [] fun _ => none) = (fun _ => none : Phi) := by funext l; simp [ren]
  refine law_calls hX hg hnm hc hr (hf.len.trans hl) fun k u x hu hx => ?_
  obtain ⟨y, hy⟩ := get?_of_lt (l := args) (k := k) (by rw [← hf.len]; exact lt_of_get? hu)
  have := (hf.get k u y hu hy).ok hs0 (hv k y x hy hx)
  rwa [hren, more_nil] at this
end Go.Proofs.Ythdeehkmlaejfaa.E
