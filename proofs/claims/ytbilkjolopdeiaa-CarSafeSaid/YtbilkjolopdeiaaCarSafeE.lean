/- The law CarSafe, by the engine. -/
import Derived.Test.YtbilkjolopdeiaaCarLawsE
namespace Go.Proofs.Ytbilkjolopdeiaa.E
open Go NumMath
set_option linter.unusedSimpArgs false
set_option linter.unusedVariables false
set_option maxRecDepth 100000
set_option maxHeartbeats 4000000
theorem CarSafe (us : List AV) (h : areArgs tt [23, 29, 29] us) : runF XCL Try.f7 us [] (boo true) [] := by
  obtain ⟨_, _, rfl, hs, _, _, rfl, ha, _, _, rfl, hb, rfl⟩ := h
  obtain ⟨s, rfl⟩ := site_arg hs
  obtain ⟨b, rfl⟩ := car_arg ha
  obtain ⟨n, rfl⟩ := car_arg hb
  clear hs ha hb
  unfold runF
  (conv => arg 1; whnf); (repeat' (first | (refine brt (by assumption) ?_; (conv => arg 1; whnf)) | (refine brf (by assumption) ?_; (conv => arg 1; whnf)) | fail))
  refine finB ?_
  simp
end Go.Proofs.Ytbilkjolopdeiaa.E
