/- NumTold by the engine. -/
import Derived.Test.YtohgniddfpjjfaaNumToldE
namespace Go.Proofs.Ytohgniddfpjjfaa.E
open Go NumMath
set_option linter.unusedSimpArgs false
set_option maxRecDepth 100000

def X6 : Cx := ⟨tt, (20, pureCtr sumG) :: (22, pureCtr fullG) :: (21, pureCtr sumG) :: (19, pureCtr mulG) :: (X3.cs ++ X5.cs),
  [20, 22, 21, 19, 14, 16, 15, 17, 18]⟩
theorem X6_ok : CxOk Try.prog X6 where
  tt := tt_ok
  cs := by
    intro p hp
    simp only [X6, List.mem_cons, List.mem_append] at hp
    rcases hp with rfl | rfl | rfl | rfl | hp | hp
    · exact sum_ok
    · exact full_ok
    · exact rsum_ok
    · exact rmul_ok
    · exact X3_ok.cs p hp
    · exact X5_ok.cs p hp
  pc := pc_ok fun g hg => by
    simp only [X6, List.mem_cons, List.not_mem_nil, or_false] at hg
    rcases hg with rfl | rfl | rfl | rfl | rfl | rfl | rfl | rfl | rfl <;> exact ⟨_, rfl⟩
  mixed := mixed

theorem numTold_run (a b : Int) (l : List Int) (hl : l.length < 281474976710656) : runF X6 Try.f4 (bodyOf Try.f4) [] [i64 a, i64 b, ints l] [] fun u _ => u = boo true := by
  unfold runF
  conv => arg 1; whnf
  refine br (fun h => ?_) (fun h => ?_)
  · conv => arg 1; whnf
    exact leaf rfl
  · have h100 : ¬ (100 : Int) < l.length := of_decide_eq_false h
    conv => arg 1; whnf
    have g1 := lim_ge b; have g2 := lim_le b
    have ea : decide (lim (lim a + lim b) = lim (lim a + lim b)) = true := decide_eq_true rfl
    have es : decide (lim (lim a - lim b) = lim (lim a + lim (IntKind.i64.wrap (0 - lim b)))) = true := by
      rw [i64w (0 - lim b) (by omega) (by omega), lim_id (a := 0 - lim b) (by omega) (by omega), show lim a + (0 - lim b) = lim a - lim b by omega]; exact decide_eq_true rfl
    have em : decide (lim (lim a * lim b) = lim (lim a * lim b)) = true := decide_eq_true rfl
    have ok : (okI l.length (fun k => [i64 (l.getD k 0)]) && decide (l.length < 281474976710656) && true) = true := by rw [okI_ints, decide_eq_true hl]; rfl
    have eu : decide (sumL (listI l.length fun k => [i64 (l.getD k 0)]) (listI l.length fun k => [i64 (l.getD k 0)]).length = sumL (listI l.length fun k => [i64 (l.getD k 0)]) (listI l.length fun k => [i64 (l.getD k 0)]).length) = true := decide_eq_true rfl
    have m1 := lim_ge a; have m2 := lim_le a
    repeat' (first | exact leaf rfl | (refine brt (by first | assumption | exact ea | exact es | exact em | exact ok | exact eu) ?_; conv => arg 1; whnf) | (refine brf (by assumption) ?_; conv => arg 1; whnf) | (refine br (fun h => ?_) (fun h => ?_) <;> (conv => arg 1; whnf)))
    · refine leaf (congrArg boo ?_)
      have h := of_decide_eq_true h
      rw [if_neg (by omega), decide_eq_true h]; rfl
    · refine leaf (congrArg boo ?_)
      have h := of_decide_eq_false h
      by_cases hn : lim a = -1099511627776
      · rw [decide_eq_true hn, if_pos (by omega), hn]; rfl
      · rw [decide_eq_false hn, decide_eq_false (by split <;> omega)]; rfl

theorem NumTold (a : Int) (_ : (Lit.int .i64 a).wf = true) (b : Int) (_ : (Lit.int .i64 b).wf = true) (l : List Int) (v : Value) (hl : l.length < 281474976710656) {W : World} (hv : VR (fun b => b < W.heap.size) (fun _ => none) W (ints l) v) (_ : World) :
    Calls Try.prog 4 #[.int .i64 a, .int .i64 b, v] W fun e W' => e = .returned (.bool true) ∧ RowKit.Below W.heap.size W W' :=
  law_calls X6_ok Try.func4 rfl (os := []) trivial (numTold_run a b l hl) (vals := [.int .i64 a, .int .i64 b, v]) rfl (args1 (vr_int _ _) (args1 (vr_int _ _) (args1 hv args0)))
end Go.Proofs.Ytohgniddfpjjfaa.E
