/- NumOrder by the engine. -/
import Derived.Test.YtohgniddfpjjfaaNumE
import Derived.Test.YtohgniddfpjjfaaELaw
namespace Go.Proofs.Ytohgniddfpjjfaa.E
open Go NumMath
set_option linter.unusedSimpArgs false
set_option maxRecDepth 100000

def X2 : Cx := ⟨tt, [(14, pureCtr addG), (16, pureCtr subG), (15, pureCtr mulG)], [14, 16, 15]⟩
theorem X2_ok : CxOk Try.prog X2 where
  tt := tt_ok
  cs := by
    intro p hp
    simp only [X2, List.mem_cons, List.not_mem_nil, or_false] at hp
    rcases hp with rfl | rfl | rfl
    · exact add_ok
    · exact sub_ok
    · exact mul_ok
  pc := pc_ok fun g hg => by
    simp only [X2, List.mem_cons, List.not_mem_nil, or_false] at hg
    rcases hg with rfl | rfl | rfl <;> exact ⟨_, rfl⟩
  mixed := mixed
def speaksG : List AV → Option (Bool × AV) | [] => some (true, boo true) | _ => none
theorem speaks_ok : CtrOk Try.prog 13 (pureCtr speaksG) :=
  pureCtr_ok X2_ok Try.func13 (by decide) rfl fun args u h => by
    unfold speaksG at h
    split at h
    case h_2 => cases h
    obtain ⟨_, rfl⟩ := Prod.mk.inj (Option.some.inj h)
    exact ⟨rfl, rfl, straight rfl rfl⟩
def X3 : Cx := ⟨tt, (13, pureCtr speaksG) :: X2.cs, 13 :: X2.pc⟩
theorem X3_ok : CxOk Try.prog X3 where
  tt := tt_ok
  cs := by
    intro p hp
    simp only [X3, List.mem_cons] at hp
    rcases hp with rfl | hp
    · exact speaks_ok
    · exact X2_ok.cs p hp
  pc := pc_ok fun g hg => by
    simp only [X3, X2, List.mem_cons, List.not_mem_nil, or_false] at hg
    rcases hg with rfl | rfl | rfl | rfl <;> exact ⟨_, rfl⟩
  mixed := mixed

theorem numOrder_run (a b c : Int) : runF X3 Try.f3 (bodyOf Try.f3) [] [i64 a, i64 b, i64 c] [] fun u _ => u = boo true := by
  have e1 : decide (lim (lim a + lim b) = lim (lim b + lim a)) = true := by rw [Int.add_comm]; exact decide_eq_true rfl
  have e2 : decide (lim (lim a * lim b) = lim (lim b * lim a)) = true := by rw [Int.mul_comm]; exact decide_eq_true rfl
  have e3 : decide (lim (lim a + lim 0) = lim (lim a * lim 1)) = true := by rw [show lim 0 = 0 by decide, show lim 1 = 1 by decide, Int.add_zero, Int.mul_one]; exact decide_eq_true rfl
  have e4 : decide (lim (lim a * lim 0) = 0) = true := by rw [show lim 0 = 0 by decide, Int.mul_zero]; decide
  have e5 : decide (lim (lim a - lim a) = 0) = true := by rw [Int.sub_self]; decide
  unfold runF
  conv => arg 1; whnf
  repeat' (first | exact leaf rfl | (refine brf (by first | (rw [e1]; rfl) | (rw [e2]; rfl) | (rw [e3]; rfl) | (rw [e4]; rfl) | (rw [e5]; rfl)) ?_; conv => arg 1; whnf) | (refine brt (by assumption) ?_; conv => arg 1; whnf) | (refine brf (by assumption) ?_; conv => arg 1; whnf) | (refine br (fun h => ?_) (fun h => ?_) <;> (conv => arg 1; whnf)))
  all_goals
    have hcb : decide (c < b) = false := by assumption
    have hcb := of_decide_eq_false hcb
    have m := lim_mono (a := b) (b := c) (by omega)
  · have ha : decide (a < 0) = false := by assumption
    have ha := of_decide_eq_false ha
    have h0 : 0 ≤ lim a := by have := lim_mono (a := 0) (b := a) (by omega); rw [show lim 0 = 0 by decide] at this; exact this
    rw [decide_eq_true (lim_mono (Int.mul_le_mul_of_nonneg_left m h0))]; exact leaf rfl
  · exact absurd (lim_mono (a := lim a - lim c) (b := lim a - lim b) (by omega)) (of_decide_eq_false (by assumption))
  · exact absurd (lim_mono (a := lim a + lim b) (b := lim a + lim c) (by omega)) (of_decide_eq_false (by assumption))

theorem NumOrder (a b c : Int) (W : World) : Calls Try.prog 3 #[.int .i64 a, .int .i64 b, .int .i64 c] W fun e W' => e = .returned (.bool true) ∧ RowKit.Below W.heap.size W W' :=
  law_calls X3_ok Try.func3 rfl (os := []) trivial (numOrder_run a b c) (vals := [.int .i64 a, .int .i64 b, .int .i64 c]) rfl (args1 (vr_int _ _) (args1 (vr_int _ _) (args1 (vr_int _ _) args0)))
end Go.Proofs.Ytohgniddfpjjfaa.E
