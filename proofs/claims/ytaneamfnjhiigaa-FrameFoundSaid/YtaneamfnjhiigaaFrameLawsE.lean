/- The laws of frames: what they call. -/
import Derived.Test.YtaneamfnjhiigaaFrameEncE
import Derived.Test.YtaneamfnjhiigaaArgsE
import Derived.Test.YtaneamfnjhiigaaBitsE
namespace Go.Proofs.Ytaneamfnjhiigaa.E
open Go
set_option linter.unusedSimpArgs false
set_option linter.unusedVariables false
set_option maxRecDepth 100000
set_option maxHeartbeats 4000000

def XFA : Cx := (XF0.add 22 (.reads readsL) (borCtr sumG)).add 26 (.foot reads2) (freshCtr encG)
theorem XFA_ok : CxOk Try.prog XFA := (XF0_ok.bor sum_ok).fresh enc_ok
theorem speaks07_ok : CtrOk Try.prog 21 (pureCtr (fn0 (giv true (boo true)))) :=
  pureCtr_ok XFA_ok Try.func21 (by decide) rfl fun args u hh => by
    obtain ⟨rfl, hv⟩ := fn0_some hh
    obtain ⟨_, rfl⟩ := giv_some hv
    clear hh hv
    refine ⟨rfl, rfl, ?_⟩
    unfold runF
    (conv => arg 1; whnf)
    exact finB rfl
def XFB : Cx := XFA.add 21 .pure (pureCtr (fn0 (giv true (boo true))))
theorem XFB_ok : CxOk Try.prog XFB := XFA_ok.pure speaks07_ok
theorem u16_arg {u : AV} (h : isArg tt 35 u) : ∃ n : Int, u = au16 n ∧ 0 ≤ n ∧ n < 65536 := by
  obtain ⟨n, e, w⟩ := h
  have := wf_u16 w
  exact ⟨n, (List.cons.inj e).1, this.1, by omega⟩
end Go.Proofs.Ytaneamfnjhiigaa.E
