/- The laws of calls: what they call, their arguments. -/
import Derived.Test.YtbilkjolopdeiaaCallsBE
import Derived.Test.YtbilkjolopdeiaaArgsE
import Derived.Test.YtbilkjolopdeiaaBitsE
namespace Go.Proofs.Ytbilkjolopdeiaa.E
open Go NumMath
set_option linter.unusedSimpArgs false
set_option linter.unusedVariables false
set_option maxRecDepth 100000
set_option maxHeartbeats 4000000

/-- A book may be handed on. -/
theorem bookOk {l : List Call} (hl : l.length ≤ 128) : (Nat.beq l.length l.length && (isRow eC l.length 4 (fun k => eC.enc (l.getD k eC.dflt)) && Nat.ble l.length 128)) = true := by
  have h1 : isRow eC l.length 4 (fun k => eC.enc (l.getD k eC.dflt)) = true := isRow_row eC (by omega)
  rw [h1, Nat.ble_eq_true_of_le hl, Nat.beq_refl]; rfl
theorem pressL_len (s : Site) (l : List Call) (b : Int) (c : Call) (h : l.length ≤ 128) : (pressL s l b c).2.length ≤ 128 := by
  unfold pressL
  cases (!(s.there c.fl)) <;> simp only [cond]
  case true => exact h
  cases decide (c.ca < -1) <;> simp only
  case true => exact h
  cases decide (s.ca ≤ c.ca) <;> simp only
  case true => exact h
  cases s.odd c <;> simp only
  case true => exact h
  cases hasF b c.fl <;> simp only
  case true => exact h
  cases l.any (alike c) <;> simp only
  case true => exact h
  cases hq : decide (128 ≤ l.length) <;> simp only
  case true => exact h
  have := of_decide_eq_false hq
  rw [List.length_append]
  simp
  omega
noncomputable def XCB : Cx := (((((X0.add 24 (.foot footL) (localCtr newG)).add 25 (.foot footL) (localCtr pressG)).add 26 (.foot footL) (localCtr allG)).add 27 (.foot footL) (localCtr tickG)).add 28 (.foot footL) (localCtr serveG)).add 29 (.foot footL) (localCtr barG)
theorem XCB_ok : CxOk Try.prog XCB := (((((X0_ok.loc new_ok).loc press_ok).loc all_ok).loc tick_ok).loc serve_ok).loc bar_ok
theorem speaks06_ok : CtrOk Try.prog 23 (pureCtr (fn0 (giv true (boo true)))) :=
  pureCtr_ok XCB_ok Try.func23 (by decide) rfl fun args u hh => by
    obtain ⟨rfl, hv⟩ := fn0_some hh
    obtain ⟨_, rfl⟩ := giv_some hv
    clear hh hv
    refine ⟨rfl, rfl, ?_⟩
    unfold runF
    (conv => arg 1; whnf)
    exact finB rfl
noncomputable def XCL6 : Cx := (XCB.add 23 .pure (pureCtr (fn0 (giv true (boo true))))).add 12 .pure (pureCtr rightG)
theorem XCL6_ok : CxOk Try.prog XCL6 := (XCB_ok.pure speaks06_ok).pure rright_ok
theorem call_arg {u : AV} (h : isArg tt 46 u) : ∃ c : Call, u = c.av ∧ -9223372036854775808 ≤ c.fl ∧ c.fl ≤ 9223372036854775807 ∧ -9223372036854775808 ≤ c.ca ∧ c.ca ≤ 9223372036854775807 := by
  obtain ⟨_, ⟨_, _, rfl, ⟨a1, rfl, w1⟩, _, _, rfl, ⟨a2, rfl, w2⟩, _, _, rfl, ⟨a3, rfl, w3⟩, _, _, rfl, ⟨a4, rfl⟩, rfl⟩, rfl⟩ := h
  exact ⟨⟨a1, a2, a3, a4⟩, rfl, (wf_i64 w1).1, (wf_i64 w1).2, (wf_i64 w2).1, (wf_i64 w2).2⟩
end Go.Proofs.Ytbilkjolopdeiaa.E
