/- The contracts of doors, by the program and by the document. -/
import Derived.Test.YthdeehkmlaejfaaSiteE
namespace Go.Proofs.Ythdeehkmlaejfaa.E
open Go
set_option linter.unusedSimpArgs false
set_option maxRecDepth 100000
set_option maxHeartbeats 4000000

structure Door where
  (ph le ru : Int)
  he : Bool
def Door.av (d : Door) : AV := .a [i64 d.ph, i64 d.le, i64 d.ru, boo d.he]
def dDoor : Dec Door := ⟨fun u => match u with
  | .a [.v (.int .i64 a), .v (.int .i64 b), .v (.int .i64 c), .v (.bool e)] => some ⟨a, b, c, e⟩
  | _ => none, Door.av, fun {u a} h => (by split at h <;> first | (obtain rfl := Option.some.inj h; rfl) | cases h)⟩
theorem finDoor {x : Door} {a b c : Int} {e : Bool} {σ' : St} (h : x = ⟨a, b, c, e⟩) : tr (Fin 0 x.av [] (.a [i64 a, i64 b, i64 c, boo e]) σ') := by subst h; exact finA ⟨.v _, .v _, .v _, .v _, trivial⟩
theorem wi (n : Int) (h : -9223372036854775808 ≤ n) (h' : n ≤ 9223372036854775807) : IntKind.i64.wrap n = n := by rw [IntKind.wrap_i64]; omega

def Site.tk (s : Site) (p : Int) : Int := if p = 1 then s.op else if p = 2 then s.wa else if p = 3 then s.cl else 0
def tkG : List AV → Option (Bool × AV) := fn2 dSite dI fun s p => giv true (i64 (s.tk p))
theorem tk_ok : CtrOk Try.prog 49 (pureCtr tkG) :=
  pureCtr_ok XS0_ok Try.func49 (by decide) rfl fun args u hh => by
    obtain ⟨s, p, rfl, hv⟩ := fn2_some hh
    obtain ⟨_, rfl⟩ := giv_some hv
    clear hh hv
    refine ⟨rfl, rfl, ?_⟩
    unfold runF
    (conv => arg 1; whnf)
    repeat' (first | (refine brt (by assumption) ?_; (conv => arg 1; whnf)) | (refine brf (by assumption) ?_; (conv => arg 1; whnf)) | (refine br (fun h => ?_) (fun h => ?_) <;> ((conv => arg 1; whnf))))
    all_goals (refine finI ?_; show s.tk p = _; unfold Site.tk; simp_all)
def Door.enter (s : Site) (d : Door) (p : Int) : Door := if p = 0 then ⟨0, 0, 0, false⟩ else ⟨p, s.tk p, d.ru, d.he⟩
def enterG : List AV → Option (Bool × AV) := fn3 dSite dDoor dI fun s d p => giv true (d.enter s p).av
def XD1 : Cx := XS0.add 49 .pure (pureCtr tkG)
theorem XD1_ok : CxOk Try.prog XD1 := XS0_ok.pure tk_ok
def Door.hold (s : Site) (d : Door) (b : Bool) : Door := if b then (if !d.he && decide (d.ru < s.nu) then ⟨d.ph, d.le, d.ru + 1, true⟩ else d) else ⟨d.ph, d.le, d.ru, false⟩
def smallN (n : Int) : Bool := decide (-1099511627776 ≤ n) && decide (n ≤ 1099511627776)
def holdG : List AV → Option (Bool × AV) := fn3 dSite dDoor dB fun s d b => giv (smallN d.ru) (d.hold s b).av
def Door.step (s : Site) (d : Door) (o b : Bool) : Door :=
  if d.ph = 0 then (if o then d.enter s 1 else d)
  else if (d.hold s b).he && decide ((d.hold s b).ph = 2) then (d.hold s b).enter s 2
  else if (d.hold s b).he && decide ((d.hold s b).ph = 3) then (d.hold s b).enter s 1
  else if (d.hold s b).le - 1 > 0 then ⟨(d.hold s b).ph, (d.hold s b).le - 1, (d.hold s b).ru, (d.hold s b).he⟩
  else Door.enter s ⟨(d.hold s b).ph, (d.hold s b).le - 1, (d.hold s b).ru, (d.hold s b).he⟩ (((d.hold s b).ph + 1).tmod 4)
theorem hold_ph (s : Site) (d : Door) (b : Bool) : (d.hold s b).ph = d.ph := by unfold Door.hold; split <;> (try split) <;> rfl
theorem hold_le (s : Site) (d : Door) (b : Bool) : (d.hold s b).le = d.le := by unfold Door.hold; split <;> (try split) <;> rfl
def stepG : List AV → Option (Bool × AV) := fn4 dSite dDoor dB dB fun s d o b => giv (smallN d.ph && smallN d.le && smallN d.ru) (d.step s o b).av

/-- Which doors may be. -/
def Door.right (s : Site) (d : Door) : Bool := s.right && (decide (0 ≤ d.ph) && (decide (d.ph ≤ 3) && (if d.ph = 0 then decide (d.le = 0) && (decide (d.ru = 0) && !d.he) else decide (0 ≤ d.ru) && (decide (d.ru ≤ s.nu) && (decide (1 ≤ d.le) && decide (d.le ≤ s.tk d.ph))))))
def XD3 : Cx := (XD1.add 48 .pure (pureCtr rightG))
theorem XD3_ok : CxOk Try.prog XD3 := XD1_ok.pure right_ok
def drightG : List AV → Option (Bool × AV) := fn2 dSite dDoor fun s d => giv true (boo (d.right s))
theorem dright_ok : CtrOk Try.prog 34 (pureCtr drightG) :=
  pureCtr_ok XD3_ok Try.func34 (by decide) rfl fun args u hh => by
    obtain ⟨s, d, rfl, hv⟩ := fn2_some hh
    obtain ⟨_, rfl⟩ := giv_some hv
    clear hh hv
    refine ⟨rfl, rfl, ?_⟩
    obtain ⟨s1, s2, s3, s4, s5, s6, s7, s8, s9, s10, s11, s12, s13⟩ := s
    obtain ⟨ph, le, ru, he⟩ := d
    unfold runF
    (conv => arg 1; whnf)
    repeat' (first | (refine brt (by assumption) ?_; (conv => arg 1; whnf)) | (refine brf (by assumption) ?_; (conv => arg 1; whnf)) | (refine br (fun h => ?_) (fun h => ?_) <;> ((conv => arg 1; whnf))))
    all_goals refine finB ?_
    all_goals (unfold Door.right; simp_all)
    all_goals (try omega)
def XD4 : Cx := XR0.add 6 .pure (pureCtr rightG)
theorem XD4_ok : CxOk Try.prog XD4 := XR0_ok.pure rright_ok
theorem rdright_ok : CtrOk Try.prog 11 (pureCtr drightG) :=
  pureCtr_ok XD4_ok Try.func11 (by decide) rfl fun args u hh => by
    obtain ⟨s, d, rfl, hv⟩ := fn2_some hh
    obtain ⟨_, rfl⟩ := giv_some hv
    clear hh hv
    refine ⟨rfl, rfl, ?_⟩
    obtain ⟨s1, s2, s3, s4, s5, s6, s7, s8, s9, s10, s11, s12, s13⟩ := s
    obtain ⟨ph, le, ru, he⟩ := d
    unfold runF
    (conv => arg 1; whnf)
    repeat' (first | (refine brt (by assumption) ?_; (conv => arg 1; whnf)) | (refine brf (by assumption) ?_; (conv => arg 1; whnf)) | (refine br (fun h => ?_) (fun h => ?_) <;> ((conv => arg 1; whnf))))
    all_goals refine finB ?_
    all_goals (unfold Door.right Site.tk; simp_all)
    all_goals (try omega)
def rstepG : List AV → Option (Bool × AV) := fn4 dSite dDoor dB dB fun s d o b => giv (decide (0 ≤ d.ph) && decide (d.ph ≤ 3) && smallN d.le && smallN d.ru && (decide (d.ph = 0) || decide (1 ≤ d.le))) (d.step s o b).av
theorem rstep_ok : CtrOk Try.prog 13 (pureCtr rstepG) :=
  pureCtr_ok XR0_ok Try.func13 (by decide) rfl fun args u hh => by
    obtain ⟨s, d, o, b, rfl, hv⟩ := fn4_some hh
    obtain ⟨hc, rfl⟩ := giv_some hv
    clear hh hv
    refine ⟨rfl, rfl, ?_⟩
    obtain ⟨s1, s2, s3, s4, s5, s6, s7, s8, s9, s10, s11, s12, s13⟩ := s
    obtain ⟨ph, le, ru, he⟩ := d
    unfold smallN at hc
    simp only [Bool.and_eq_true, Bool.or_eq_true, decide_eq_true_eq] at hc
    have w1 : IntKind.i64.wrap (le - 1) = le - 1 := wi _ (by omega) (by omega)
    have w2 : IntKind.i64.wrap (ru + 1) = ru + 1 := wi _ (by omega) (by omega)
    have h4 : ph = 0 ∨ ph = 1 ∨ ph = 2 ∨ ph = 3 := by omega
    rcases h4 with rfl | rfl | rfl | rfl
    all_goals
      unfold runF
      (conv => arg 1; whnf)
      repeat' (first | (refine brt (by assumption) ?_; (conv => arg 1; whnf)) | (refine brf (by assumption) ?_; (conv => arg 1; whnf)) | (refine br (fun h => ?_) (fun h => ?_) <;> ((conv => arg 1; whnf))))
    all_goals refine finDoor ?_
    all_goals clear w1 w2
    all_goals (try simp (disch := omega) only [wi] at *)
    all_goals (try simp only [Bool.not_eq_true', Bool.not_eq_false', decide_eq_true_eq, decide_eq_false_iff_not] at *)
    all_goals (cases b <;> cases he <;> by_cases hru : ru < s9 <;> (first | contradiction | (exfalso; simp_all; done) | skip))
    all_goals (simp only [Door.step, Door.hold, Door.enter, Site.tk, hru, Bool.not_true, Bool.not_false, Bool.true_and, Bool.false_and, Bool.and_true, Bool.and_false, decide_true, decide_false, if_true, if_false, Bool.false_eq_true, reduceCtorEq, decide_eq_true_eq])
    all_goals (first | rfl | skip)
    all_goals (simp_all)
    all_goals (try omega)
end Go.Proofs.Ythdeehkmlaejfaa.E
