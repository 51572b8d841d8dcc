/- The contracts of sites: which may be, by the program and by the document. -/
import Derived.Test.YthdeehkmlaejfaaTypes
import Derived.Test.YthdeehkmlaejfaaEngE
namespace Go.Proofs.Ythdeehkmlaejfaa.E
open Go
set_option linter.unusedSimpArgs false
set_option maxRecDepth 100000
set_option maxHeartbeats 4000000

structure Site where
  (fl ca st sp so op wa cl nu ag si bu pe : Int)
def Site.av (s : Site) : AV := .a [i64 s.fl, i64 s.ca, i64 s.st, i64 s.sp, i64 s.so, i64 s.op, i64 s.wa, i64 s.cl, i64 s.nu, i64 s.ag, i64 s.si, i64 s.bu, i64 s.pe]
def dSite : Dec Site := ⟨fun u => match u with
  | .a [.v (.int .i64 a), .v (.int .i64 b), .v (.int .i64 c), .v (.int .i64 d), .v (.int .i64 e), .v (.int .i64 f), .v (.int .i64 g), .v (.int .i64 h), .v (.int .i64 i), .v (.int .i64 j), .v (.int .i64 k), .v (.int .i64 l), .v (.int .i64 m)] => some ⟨a, b, c, d, e, f, g, h, i, j, k, l, m⟩
  | _ => none, Site.av, fun {u a} h => (by split at h <;> first | (obtain rfl := Option.some.inj h; rfl) | cases h)⟩

def inB (n lo hi : Int) : Bool := decide (lo ≤ n) && decide (n ≤ hi)
def inG : List AV → Option (Bool × AV) := fn3 dI dI dI fun n lo hi => giv true (boo (inB n lo hi))
def XS0 : Cx := ⟨tt, [], [], []⟩
theorem XS0_ok : CxOk Try.prog XS0 := CxOk.nil tt_ok mixed
theorem in_ok : CtrOk Try.prog 50 (pureCtr inG) :=
  pureCtr_ok XS0_ok Try.func50 (by decide) rfl fun args u h => by
    obtain ⟨n, lo, hi, rfl, h⟩ := fn3_some h
    obtain ⟨_, rfl⟩ := giv_some h
    refine ⟨rfl, rfl, ?_⟩
    unfold runF
    (conv => arg 1; whnf)
    repeat' (first | (refine brt (by assumption) ?_; (conv => arg 1; whnf)) | (refine brf (by assumption) ?_; (conv => arg 1; whnf)) | (refine br (fun h => ?_) (fun h => ?_) <;> ((conv => arg 1; whnf))))
    all_goals (refine finB ?_; simp [inB, *])
def Site.right (s : Site) : Bool :=
  inB s.fl 2 64 && (inB s.ca 1 8 && (inB s.st 0 1000 && (inB s.sp 1 1000 && (inB s.so 0 1000 && (inB s.op 1 1000 && (inB s.wa 1 1000 && (inB s.cl 1 1000 && (inB s.nu 0 10 && (inB s.ag 1 1000000 && (inB s.si 1 1000000 && (inB s.bu 1 1000000 && inB s.pe 1 1000)))))))))))
noncomputable def XS1 : Cx := ((XS0.add 50 .pure (pureCtr inG)).addRun 58 (runFn XS0 Try.f58 (bodyOf Try.f58))).addRun 62 (runFn XS0 Try.f62 (bodyOf Try.f62))
theorem XS1_ok : CxOk Try.prog XS1 := ((XS0_ok.pure in_ok).addRun (runFn_ok XS0_ok Try.func58 (by decide) rfl)).addRun (runFn_ok XS0_ok Try.func62 (by decide) rfl)
def rightG : List AV → Option (Bool × AV) := fn1 dSite fun s => giv true (boo s.right)
theorem right_ok : CtrOk Try.prog 48 (pureCtr rightG) :=
  pureCtr_ok XS1_ok Try.func48 (by decide) rfl fun args u h => by
    obtain ⟨s, rfl, h⟩ := fn1_some h
    obtain ⟨_, rfl⟩ := giv_some h
    refine ⟨rfl, rfl, ?_⟩
    unfold runF
    (conv => arg 1; whnf)
    clear h
    repeat' (first | (refine brt (by assumption) ?_; (conv => arg 1; whnf)) | (refine brf (by assumption) ?_; (conv => arg 1; whnf)) | (refine br (fun h => ?_) (fun h => ?_) <;> ((conv => arg 1; whnf))))
    all_goals (refine finB ?_; show s.right = _; unfold Site.right; simp_all)

def XR0 : Cx := ⟨tt, [], [], []⟩
theorem XR0_ok : CxOk Try.prog XR0 := CxOk.nil tt_ok mixed
theorem rright_ok : CtrOk Try.prog 6 (pureCtr rightG) :=
  pureCtr_ok XR0_ok Try.func6 (by decide) rfl fun args u h => by
    obtain ⟨s, rfl, h⟩ := fn1_some h
    obtain ⟨_, rfl⟩ := giv_some h
    refine ⟨rfl, rfl, ?_⟩
    unfold runF
    (conv => arg 1; whnf)
    clear h
    repeat' (first | (refine brt (by assumption) ?_; (conv => arg 1; whnf)) | (refine brf (by assumption) ?_; (conv => arg 1; whnf)) | (refine br (fun h => ?_) (fun h => ?_) <;> ((conv => arg 1; whnf))))
    all_goals (refine finB ?_; show s.right = _; unfold Site.right inB; simp only [decide_eq_true_eq, decide_eq_false_iff_not] at *)
    all_goals first
      | (rw [Bool.eq_false_iff]; intro hh; simp only [Bool.and_eq_true, decide_eq_true_eq] at hh; omega)
      | (simp only [Bool.and_eq_true, decide_eq_true_eq]; omega)
      | (rw [Bool.eq_iff_iff]; simp only [Bool.and_eq_true, decide_eq_true_eq]; omega)
end Go.Proofs.Ythdeehkmlaejfaa.E
