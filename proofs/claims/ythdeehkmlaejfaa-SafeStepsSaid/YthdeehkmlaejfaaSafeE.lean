/- The functions of package safe that reckon, by the engine. -/
import Derived.Test.YthdeehkmlaejfaaCarLawsE
import Derived.Test.YthdeehkmlaejfaaUnrollE
namespace Go.Proofs.Ythdeehkmlaejfaa.E
open Go NumMath
set_option linter.unusedSimpArgs false
set_option linter.unusedVariables false
set_option maxRecDepth 100000
set_option maxHeartbeats 8000000
theorem knxt (k : Nat) (h : k ≤ 1000000000) : IntKind.i64.wrap ((k : Int) + 1) = ((k + 1 : Nat) : Int) := by rw [wi _ (by omega) (by omega)]; omega
/-- A call. -/
structure Cll where
  (fl ca ag : Int)
  up : Bool
def eCl : Elt Cll := ⟨4, fun u => match u with | [.v (.int .i64 a), .v (.int .i64 b), .v (.int .i64 c), .v (.bool d)] => some ⟨a, b, c, d⟩ | _ => none, fun c => [i64 c.fl, i64 c.ca, i64 c.ag, boo c.up], ⟨0, 0, 0, false⟩, fun {u a} h => (by split at h <;> first | (obtain rfl := Option.some.inj h; rfl) | cases h), fun _ => rfl⟩
def Cll.av (c : Cll) : AV := .a [i64 c.fl, i64 c.ca, i64 c.ag, boo c.up]
def dCl : Dec Cll := ⟨fun u => match u with | .a [.v (.int .i64 a), .v (.int .i64 b), .v (.int .i64 c), .v (.bool d)] => some ⟨a, b, c, d⟩ | _ => none, Cll.av, fun {u a} h => (by split at h <;> first | (obtain rfl := Option.some.inj h; rfl) | cases h)⟩
def eCr : Elt Car := ⟨8, fun u => match u with | [.v (.int .i64 a), .v (.int .i64 b), .v (.int .i64 c), .v (.int .i64 d), .v (.int .i64 e), .v (.int .i64 f), .v (.bool g), .v (.bool h)] => some ⟨a, b, c, ⟨d, e, f, g⟩, h⟩ | _ => none, fun c => [i64 c.fl, i64 c.ta, i64 c.ti, i64 c.d.ph, i64 c.d.le, i64 c.d.ru, boo c.d.he, boo c.fa], ⟨0, 0, 0, ⟨0, 0, 0, false⟩, false⟩, fun {u a} h => (by split at h <;> first | (obtain rfl := Option.some.inj h; rfl) | cases h), fun _ => rfl⟩
theorem fitSiteA (s : Site) : Fit [] [] (dSite.enc s) (dSite.enc s) := Fit.al ⟨.v _, .v _, .v _, .v _, .v _, .v _, .v _, .v _, .v _, .v _, .v _, .v _, .v _, trivial⟩
theorem fitClA (c : Cll) : Fit [] [] (dCl.enc c) (dCl.enc c) := Fit.al ⟨.v _, .v _, .v _, .v _, trivial⟩
theorem any_yes {n k : Nat} {P : Nat → Bool} (hk : k < n) (h : P k = true) : (List.range n).any P = true := List.any_eq_true.2 ⟨k, List.mem_range.2 hk, h⟩
theorem any_no {n : Nat} {P : Nat → Bool} (h : ∀ j, j < n → P j = false) : (List.range n).any P = false := by
  rw [Bool.eq_false_iff]
  intro h1
  obtain ⟨k, hk, h2⟩ := List.any_eq_true.1 h1
  rw [h k (List.mem_range.1 hk)] at h2; cases h2
def XF0 : Cx := ⟨tt, [], [], []⟩
theorem XF0_ok : CxOk Try.prog XF0 := CxOk.nil tt_ok mixed
def keyG : List AV → Option (Bool × AV) := fn1 dCl fun c => giv true (Cll.av ⟨c.fl, c.ca, 0, c.up⟩)
theorem key_ok : CtrOk Try.prog 18 (pureCtr keyG) :=
  pureCtr_ok XF0_ok Try.func18 (by decide) rfl fun args u hh => by
    obtain ⟨c, rfl, hv⟩ := fn1_some hh
    obtain ⟨_, rfl⟩ := giv_some hv
    clear hh hv
    refine ⟨rfl, rfl, ?_⟩
    unfold runF
    (conv => arg 1; whnf)
    exact finA ⟨.v _, .v _, .v _, .v _, trivial⟩
/-- Is a car not as it may be a tick later? -/
def leapsB (s : Site) (b n : List Car) : Bool := (!decide ((b.length : Int) = (n.length : Int))) || ((!decide ((n.length : Int) = s.ca)) || (decide (s.ca < 1) || (List.range n.length).any fun k => !(b.getD k eCr.dflt).safe s (n.getD k eCr.dflt)))
def leapsG : List AV → Option (Bool × AV) := ad3 (adD dSite fitSiteA) (adR eCr) (adR eCr) fun s b n => giv (decide (n.length ≤ 1000)) (boo (leapsB s b n))
def XF1 : Cx := (XF0.add 22 .pure (pureCtr csafeG)).join 200001
theorem XF1_ok : CxOk Try.prog XF1 := (XF0_ok.pure csafe_ok).join 200001 rfl
theorem leaps_ok : CtrOk Try.prog 14 (borCtr leapsG) :=
  borCtr_can XF1_ok Try.func14 (by decide) rfl fun args u h => by
    obtain ⟨s, b, n, hf, _, hb2, hn2, hv⟩ := ad3_some h
    obtain ⟨hc, rfl⟩ := giv_some hv
    have hc := of_decide_eq_true hc
    refine ⟨_, hf, ?_⟩
    clear h hf hv
    obtain ⟨out, hout⟩ : ∃ o : Bool, o = ((!decide ((b.length : Int) = (n.length : Int))) || ((!decide ((n.length : Int) = s.ca)) || decide (s.ca < 1))) := ⟨_, rfl⟩
    unfold runF
    (conv => arg 1; whnf)
    refine joinIn (fun _ : Unit => True) (fun _ => frm 42 [(1, row eCr b), (2, row eCr n), (3, .p 0 0), (6, boo false), (25, boo out)]) (fun _ => [siteB s]) ?_ (fun _ _ => ?_)
    · (conv => arg 1; whnf)
      cases h1 : (!decide ((b.length : Int) = (n.length : Int))) with
      | true =>
        rw [h1] at hout
        (conv => arg 1; whnf); (repeat' (first | (refine brt (by assumption) ?_; (conv => arg 1; whnf)) | (refine brf (by assumption) ?_; (conv => arg 1; whnf)) | fail))
        refine joinTo () [0] trivial (by decide) ?_ ⟨⟨_, rfl, .lit (by (repeat' (first | exact True.intro | exact Fit.dead _ | exact Fit.v _ | exact .p rfl | exact .s rfl | exact .i fun _ _ => rfl | refine And.intro ?_ ?_)))⟩, trivial⟩ rfl
        (repeat' (first | exact True.intro | exact Fit.dead _ | exact Fit.v _ | exact .p rfl | exact .s rfl | exact .i fun _ _ => rfl | exact Fit.v' (congrArg Value.bool (hout.trans (by rfl))) | refine And.intro ?_ ?_))
      | false =>
      rw [h1] at hout
      cases h2 : (!decide ((n.length : Int) = s.ca)) with
      | true =>
        rw [h2] at hout
        (conv => arg 1; whnf); (repeat' (first | (refine brt (by assumption) ?_; (conv => arg 1; whnf)) | (refine brf (by assumption) ?_; (conv => arg 1; whnf)) | fail))
        refine joinTo () [0] trivial (by decide) ?_ ⟨⟨_, rfl, .lit (by (repeat' (first | exact True.intro | exact Fit.dead _ | exact Fit.v _ | exact .p rfl | exact .s rfl | exact .i fun _ _ => rfl | refine And.intro ?_ ?_)))⟩, trivial⟩ rfl
        (repeat' (first | exact True.intro | exact Fit.dead _ | exact Fit.v _ | exact .p rfl | exact .s rfl | exact .i fun _ _ => rfl | exact Fit.v' (congrArg Value.bool (hout.trans (by rfl))) | refine And.intro ?_ ?_))
      | false =>
      rw [h2] at hout
      (conv => arg 1; whnf); (repeat' (first | (refine brt (by assumption) ?_; (conv => arg 1; whnf)) | (refine brf (by assumption) ?_; (conv => arg 1; whnf)) | fail))
      refine joinTo () [0] trivial (by decide) ?_ ⟨⟨_, rfl, .lit (by (repeat' (first | exact True.intro | exact Fit.dead _ | exact Fit.v _ | exact .p rfl | exact .s rfl | exact .i fun _ _ => rfl | refine And.intro ?_ ?_)))⟩, trivial⟩ rfl
      (repeat' (first | exact True.intro | exact Fit.dead _ | exact Fit.v _ | exact .p rfl | exact .s rfl | exact .i fun _ _ => rfl | exact Fit.v' (congrArg Value.bool (hout.trans (by rfl))) | refine And.intro ?_ ?_))
    · have hL : leapsB s b n = (out || (List.range n.length).any fun k => !(b.getD k eCr.dflt).safe s (n.getD k eCr.dflt)) := by
        unfold leapsB; rw [hout]; simp only [Bool.or_assoc]
      cases out with
      | true =>
        (conv => arg 1; whnf); (repeat' (first | (refine brt (by assumption) ?_; (conv => arg 1; whnf)) | (refine brf (by assumption) ?_; (conv => arg 1; whnf)) | fail))
        refine finB ?_
        rw [hL]; rfl
      | false =>
      have hout := hout.symm
      simp only [Bool.or_eq_false_iff, Bool.not_eq_false', decide_eq_true_eq, decide_eq_false_iff_not] at hout
      rw [Bool.false_or] at hL
      (conv => arg 1; whnf); (repeat' (first | (refine brt (by assumption) ?_; (conv => arg 1; whnf)) | (refine brf (by assumption) ?_; (conv => arg 1; whnf)) | fail))
      refine loopM [1, 3, 26, 27] (fun k : Nat => k ≤ n.length ∧ ∀ j, j < k → (!(b.getD j eCr.dflt).safe s (n.getD j eCr.dflt)) = false) (fun k => [(28, i64 k)]) (fun _ => []) (fun k => n.length - k) 0 ⟨Nat.zero_le _, fun j hj => absurd hj (Nat.not_lt_zero j)⟩ rfl ?_ ?_ fun k hi => ?_
      · repeat' (first | exact True.intro | exact Fit.dead _ | exact Fit.v _ | exact .i fun _ _ => rfl | exact Fit.ip | exact .p rfl | exact .q rfl | exact .s rfl | exact .y rfl | exact Fit.z | exact ⟨_, rfl, .gone _⟩ | exact ⟨_, rfl, .lrec _⟩ | exact ⟨_, rfl, .held⟩ | exact ⟨_, rfl, .tab fun _ _ => rfl⟩ | refine Fit.al ?_ | refine Fit.fl ?_ ?_ | refine ⟨_, rfl, .lit ?_⟩ | refine And.intro ?_ ?_)
      · repeat' (first | exact True.intro | exact Fit.dead _ | exact Fit.v _ | exact .i fun _ _ => rfl | exact Fit.ip | exact .p rfl | exact .q rfl | exact .s rfl | exact .y rfl | exact Fit.z | exact ⟨_, rfl, .gone _⟩ | exact ⟨_, rfl, .lrec _⟩ | exact ⟨_, rfl, .held⟩ | exact ⟨_, rfl, .tab fun _ _ => rfl⟩ | refine Fit.al ?_ | refine Fit.fl ?_ ?_ | refine ⟨_, rfl, .lit ?_⟩ | refine And.intro ?_ ?_)
      obtain ⟨hk, hall⟩ := hi
      (conv => arg 1; whnf)
      refine br (fun h3 => ?_) (fun h3 => ?_)
      · have hlt : k < n.length := by have := of_decide_eq_true h3; omega
        have ek : (k : Int).toNat = k := by omega
        have e1 : (decide (0 ≤ (k : Int)) && decide ((k : Int) < (n.length : Int))) = true := by simp only [Bool.and_eq_true, decide_eq_true_eq]; omega
        have e2 : (decide (0 ≤ (k : Int)) && decide ((k : Int) < (b.length : Int))) = true := by simp only [Bool.and_eq_true, decide_eq_true_eq]; omega
        (conv => arg 1; whnf); (repeat' (first | (refine brt (by assumption) ?_; (conv => arg 1; whnf)) | (refine brf (by assumption) ?_; (conv => arg 1; whnf)) | fail))
        refine br (fun h4 => ?_) (fun h4 => ?_)
        · have h4 : (!(b.getD k eCr.dflt).safe s (n.getD k eCr.dflt)) = true := h4
          (conv => arg 1; whnf); (repeat' (first | (refine brt (by assumption) ?_; (conv => arg 1; whnf)) | (refine brf (by assumption) ?_; (conv => arg 1; whnf)) | fail))
          refine leaveRet ?_
          show tr _
          (conv => arg 1; whnf); (repeat' (first | (refine brt (by assumption) ?_; (conv => arg 1; whnf)) | (refine brf (by assumption) ?_; (conv => arg 1; whnf)) | fail))
          refine finB ?_
          rw [hL]; exact any_yes hlt h4
        · have h4 : (!(b.getD k eCr.dflt).safe s (n.getD k eCr.dflt)) = false := h4
          (conv => arg 1; whnf); (repeat' (first | (refine brt (by assumption) ?_; (conv => arg 1; whnf)) | (refine brf (by assumption) ?_; (conv => arg 1; whnf)) | fail))
          refine again (k + 1) [0] ⟨hlt, fun j hj => ?_⟩ (by show n.length - (k + 1) < n.length - k; omega) (by decide) ?_ ⟨⟨_, rfl, .lit (by (repeat' (first | exact True.intro | exact Fit.dead _ | exact Fit.v _ | exact .p rfl | exact .s rfl | exact .i fun _ _ => rfl | refine And.intro ?_ ?_)))⟩, trivial⟩ rfl
          · rcases Nat.lt_or_ge j k with h | h
            · exact hall j h
            · have : j = k := by omega
              subst this; exact h4
          · (repeat' (first | exact True.intro | exact Fit.dead _ | exact Fit.v _ | exact .p rfl | exact .s rfl | exact .i fun _ _ => rfl | exact Fit.v' (congrArg (Value.int .i64) (knxt k (by omega)).symm) | refine And.intro ?_ ?_))
      · have hkn : k = n.length := by have := of_decide_eq_false h3; omega
        (conv => arg 1; whnf); (repeat' (first | (refine brt (by assumption) ?_; (conv => arg 1; whnf)) | (refine brf (by assumption) ?_; (conv => arg 1; whnf)) | fail))
        refine leave ?_
        show tr _
        (conv => arg 1; whnf); (repeat' (first | (refine brt (by assumption) ?_; (conv => arg 1; whnf)) | (refine brf (by assumption) ?_; (conv => arg 1; whnf)) | fail))
        refine finB ?_
        rw [hL]; exact any_no fun j hj => hall j (by omega)
/-- May some car have served a call? -/
def servB (c : Cll) (n : Nat) (x : Car) : Bool := (decide (c.ca = -1) || decide (c.ca = (n : Int))) && (decide (x.ti = 0) && (decide (x.fl = c.fl) && decide (x.d.ph = 2)))
def servedB (cs : List Car) (c : Cll) : Bool := (List.range cs.length).any fun n => servB c n (cs.getD n eCr.dflt)
def servedG : List AV → Option (Bool × AV) := ad2 (adR eCr) (adD dCl fitClA) fun cs c => giv (decide (cs.length ≤ 1000)) (boo (servedB cs c))
def XF2 : Cx := XF0.join 200004
theorem XF2_ok : CxOk Try.prog XF2 := XF0_ok.join 200004 rfl
theorem served_ok : CtrOk Try.prog 17 (borCtr servedG) :=
  borCtr_can XF2_ok Try.func17 (by decide) rfl fun args u h => by
    obtain ⟨cs, c, hf, hb2, _, hv⟩ := ad2_some h
    obtain ⟨hc, rfl⟩ := giv_some hv
    have hc := of_decide_eq_true hc
    refine ⟨_, hf, ?_⟩
    clear h hf hv
    unfold runF
    (conv => arg 1; whnf)
    refine loopM [3, 7, 8] (fun k : Nat => k ≤ cs.length ∧ ∀ j, j < k → servB c j (cs.getD j eCr.dflt) = false) (fun k => [(9, i64 k)]) (fun _ => []) (fun k => cs.length - k) 0 ⟨Nat.zero_le _, fun j hj => absurd hj (Nat.not_lt_zero j)⟩ rfl ?_ ?_ fun k hi => ?_
    · repeat' (first | exact True.intro | exact Fit.dead _ | exact Fit.v _ | exact .i fun _ _ => rfl | exact Fit.ip | exact .p rfl | exact .q rfl | exact .s rfl | exact .y rfl | exact Fit.z | exact ⟨_, rfl, .gone _⟩ | exact ⟨_, rfl, .lrec _⟩ | exact ⟨_, rfl, .held⟩ | exact ⟨_, rfl, .tab fun _ _ => rfl⟩ | refine Fit.al ?_ | refine Fit.fl ?_ ?_ | refine ⟨_, rfl, .lit ?_⟩ | refine And.intro ?_ ?_)
    · repeat' (first | exact True.intro | exact Fit.dead _ | exact Fit.v _ | exact .i fun _ _ => rfl | exact Fit.ip | exact .p rfl | exact .q rfl | exact .s rfl | exact .y rfl | exact Fit.z | exact ⟨_, rfl, .gone _⟩ | exact ⟨_, rfl, .lrec _⟩ | exact ⟨_, rfl, .held⟩ | exact ⟨_, rfl, .tab fun _ _ => rfl⟩ | refine Fit.al ?_ | refine Fit.fl ?_ ?_ | refine ⟨_, rfl, .lit ?_⟩ | refine And.intro ?_ ?_)
    obtain ⟨hk, hall⟩ := hi
    (conv => arg 1; whnf)
    refine br (fun h3 => ?_) (fun h3 => ?_)
    · have hlt : k < cs.length := by have := of_decide_eq_true h3; omega
      have ek : (k : Int).toNat = k := by omega
      have e1 : (decide (0 ≤ (k : Int)) && decide ((k : Int) < (cs.length : Int))) = true := by simp only [Bool.and_eq_true, decide_eq_true_eq]; omega
      have hS : ∀ (x : Car), x = cs.getD (k : Int).toNat eCr.dflt → servB c k (cs.getD k eCr.dflt) = servB c k x := fun x e => by rw [e, ek]
      (conv => arg 1; whnf); (repeat' (first | (refine brt (by assumption) ?_; (conv => arg 1; whnf)) | (refine brf (by assumption) ?_; (conv => arg 1; whnf)) | fail))
      refine joinIn (fun _ : Unit => True) (fun _ => frm 42 [(3, .p 0 0), (7, row eCr cs), (8, i64 cs.length), (9, i64 k), (40, boo (servB c k (cs.getD k eCr.dflt)))]) (fun _ => [.lit [i64 c.fl, i64 c.ca, i64 c.ag, boo c.up]]) ?_ (fun _ _ => ?_)
      · (conv => arg 1; whnf); (repeat' (first | (refine brt (by assumption) ?_; (conv => arg 1; whnf)) | (refine brf (by assumption) ?_; (conv => arg 1; whnf)) | fail))
        rw [hS _ rfl]
        generalize cs.getD (k : Int).toNat eCr.dflt = x
        have two : ∀ p1 p2 : Bool, decide (c.ca = -1) = p1 → decide (c.ca = (k : Int)) = p2 → servB c k x = ((p1 || p2) && (decide (x.ti = 0) && (decide (x.fl = c.fl) && decide (x.d.ph = 2)))) := fun p1 p2 h1 h2 => by unfold servB; rw [h1, h2]
        rw [two _ _ rfl rfl]
        cases p1 : decide (c.ca = -1) <;> cases p2 : decide (c.ca = (k : Int)) <;> cases p3 : decide (x.ti = 0) <;> cases p4 : decide (x.fl = c.fl) <;> cases p5 : decide (x.d.ph = 2)
        all_goals ((conv => arg 1; whnf); (repeat' (first | (refine brt (by assumption) ?_; (conv => arg 1; whnf)) | (refine brf (by assumption) ?_; (conv => arg 1; whnf)) | fail)))
        all_goals (refine joinTo () [0] trivial (by decide) ?_ ⟨⟨_, rfl, .lit (by (repeat' (first | exact True.intro | exact Fit.dead _ | exact Fit.v _ | exact .p rfl | exact .s rfl | exact .i fun _ _ => rfl | refine And.intro ?_ ?_)))⟩, trivial⟩ rfl)
        all_goals ((repeat' (first | exact True.intro | exact Fit.dead _ | exact Fit.v _ | exact .p rfl | exact .s rfl | exact .i fun _ _ => rfl | exact Fit.v' (congrArg Value.bool p5.symm) | refine And.intro ?_ ?_)))
      · refine br (fun h4 => ?_) (fun h4 => ?_)
        · (conv => arg 1; whnf); (repeat' (first | (refine brt (by assumption) ?_; (conv => arg 1; whnf)) | (refine brf (by assumption) ?_; (conv => arg 1; whnf)) | fail))
          refine leaveRet ?_
          show tr _
          (conv => arg 1; whnf); (repeat' (first | (refine brt (by assumption) ?_; (conv => arg 1; whnf)) | (refine brf (by assumption) ?_; (conv => arg 1; whnf)) | fail))
          refine finB ?_
          exact any_yes hlt h4
        · (conv => arg 1; whnf); (repeat' (first | (refine brt (by assumption) ?_; (conv => arg 1; whnf)) | (refine brf (by assumption) ?_; (conv => arg 1; whnf)) | fail))
          refine again (k + 1) [0] ⟨hlt, fun j hj => ?_⟩ (by show cs.length - (k + 1) < cs.length - k; omega) (by decide) ?_ ⟨⟨_, rfl, .lit (by (repeat' (first | exact True.intro | exact Fit.dead _ | exact Fit.v _ | exact .p rfl | exact .s rfl | exact .i fun _ _ => rfl | refine And.intro ?_ ?_)))⟩, trivial⟩ rfl
          · rcases Nat.lt_or_ge j k with h | h
            · exact hall j h
            · have : j = k := by omega
              subst this; exact h4
          · (repeat' (first | exact True.intro | exact Fit.dead _ | exact Fit.v _ | exact .p rfl | exact .s rfl | exact .i fun _ _ => rfl | exact Fit.v' (congrArg (Value.int .i64) (knxt k (by omega)).symm) | refine And.intro ?_ ?_))
    · have hkn : k = cs.length := by have := of_decide_eq_false h3; omega
      (conv => arg 1; whnf); (repeat' (first | (refine brt (by assumption) ?_; (conv => arg 1; whnf)) | (refine brf (by assumption) ?_; (conv => arg 1; whnf)) | fail))
      refine leave ?_
      show tr _
      (conv => arg 1; whnf); (repeat' (first | (refine brt (by assumption) ?_; (conv => arg 1; whnf)) | (refine brf (by assumption) ?_; (conv => arg 1; whnf)) | fail))
      refine finB ?_
      exact any_no fun j hj => hall j (by omega)
/-- Does a car go away? -/
def goB (x y : Car) : Bool := (!decide (y.ti = 0)) && (decide (x.ti = 0) && !decide (y.ta = 0))
def awayB (b n : List Car) : Bool := (List.range (min b.length n.length)).any fun k => goB (b.getD k eCr.dflt) (n.getD k eCr.dflt)
def awayG : List AV → Option (Bool × AV) := ad2 (adR eCr) (adR eCr) fun b n => giv (decide (b.length ≤ 1000) && decide (n.length ≤ 1000)) (boo (awayB b n))
theorem away_ok : CtrOk Try.prog 15 (borCtr awayG) :=
  borCtr_can XF2_ok Try.func15 (by decide) rfl fun args u h => by
    obtain ⟨b, n, hf, hb2, hn2, hv⟩ := ad2_some h
    obtain ⟨hc, rfl⟩ := giv_some hv
    simp only [Bool.and_eq_true, decide_eq_true_eq] at hc
    obtain ⟨hc1, hc2⟩ := hc
    refine ⟨_, hf, ?_⟩
    clear h hf hv
    obtain ⟨m, hm⟩ : ∃ m, m = min b.length n.length := ⟨_, rfl⟩
    have hmm : mm false (b.length : Int) (n.length : Int) = ((m : Nat) : Int) := by show (if (n.length : Int) < (b.length : Int) then (n.length : Int) else (b.length : Int)) = _; split <;> omega
    have e0 : (decide ((0 : Int) ≤ 0) && (decide ((0 : Int) ≤ (m : Int)) && (decide ((m : Int) ≤ (n.length : Int)) && decide ((n.length : Int) ≤ (n.length : Int))))) = true := by simp only [Bool.and_eq_true, decide_eq_true_eq]; omega
    unfold runF
    (conv => arg 1; whnf)
    rw [hmm]
    (conv => arg 1; whnf); (repeat' (first | (refine brt (by assumption) ?_; (conv => arg 1; whnf)) | (refine brf (by assumption) ?_; (conv => arg 1; whnf)) | fail))
    refine loopM [0, 13, 14] (fun k : Nat => k ≤ m ∧ ∀ j, j < k → goB (b.getD j eCr.dflt) (n.getD j eCr.dflt) = false) (fun k => [(15, i64 k)]) (fun _ => []) (fun k => m - k) 0 ⟨Nat.zero_le _, fun j hj => absurd hj (Nat.not_lt_zero j)⟩ rfl ?_ ?_ fun k hi => ?_
    · repeat' (first | exact True.intro | exact Fit.dead _ | exact Fit.v _ | exact .i fun _ _ => rfl | exact Fit.ip | exact .p rfl | exact .q rfl | exact .s rfl | exact .y rfl | exact Fit.z | exact ⟨_, rfl, .gone _⟩ | exact ⟨_, rfl, .lrec _⟩ | exact ⟨_, rfl, .held⟩ | exact ⟨_, rfl, .tab fun _ _ => rfl⟩ | refine Fit.al ?_ | refine Fit.fl ?_ ?_ | refine ⟨_, rfl, .lit ?_⟩ | refine And.intro ?_ ?_)
    · repeat' (first | exact True.intro | exact Fit.dead _ | exact Fit.v _ | exact .i fun _ _ => rfl | exact Fit.ip | exact .p rfl | exact .q rfl | exact .s rfl | exact .y rfl | exact Fit.z | exact ⟨_, rfl, .gone _⟩ | exact ⟨_, rfl, .lrec _⟩ | exact ⟨_, rfl, .held⟩ | exact ⟨_, rfl, .tab fun _ _ => rfl⟩ | refine Fit.al ?_ | refine Fit.fl ?_ ?_ | refine ⟨_, rfl, .lit ?_⟩ | refine And.intro ?_ ?_)
    obtain ⟨hk, hall⟩ := hi
    (conv => arg 1; whnf)
    refine br (fun h3 => ?_) (fun h3 => ?_)
    · have hlt : k < m := by
        have h4 : (k : Int) < ((m - 0 : Nat) : Int) := of_decide_eq_true h3
        omega
      have ek : (k : Int).toNat = k := by omega
      have e1 : (decide (0 ≤ (k : Int)) && decide ((k : Int) < (((m : Int).toNat - Int.toNat 0 : Nat) : Int))) = true := by simp only [Bool.and_eq_true, decide_eq_true_eq]; have : Int.toNat 0 = 0 := rfl; omega
      have e2 : (decide (0 ≤ (k : Int)) && decide ((k : Int) < (b.length : Int))) = true := by simp only [Bool.and_eq_true, decide_eq_true_eq]; omega
      have hS : ∀ (x y : Car), x = b.getD (k : Int).toNat eCr.dflt → y = n.getD (Int.toNat 0 + (k : Int).toNat) eCr.dflt → goB (b.getD k eCr.dflt) (n.getD k eCr.dflt) = goB x y := fun x y e e' => by
        rw [e, e', ek, show Int.toNat 0 + k = k from Nat.zero_add k]
      (conv => arg 1; whnf); (repeat' (first | (refine brt (by assumption) ?_; (conv => arg 1; whnf)) | (refine brf (by assumption) ?_; (conv => arg 1; whnf)) | fail))
      refine joinIn (fun _ : Unit => True) (fun _ => frm 37 [(0, row eCr b), (13, .i 8 m fun k => eCr.enc (n.getD (0 + k) eCr.dflt)), (14, i64 m), (15, i64 k), (35, boo (goB (b.getD k eCr.dflt) (n.getD k eCr.dflt)))]) (fun _ => []) ?_ (fun _ _ => ?_)
      · (conv => arg 1; whnf); (repeat' (first | (refine brt (by assumption) ?_; (conv => arg 1; whnf)) | (refine brf (by assumption) ?_; (conv => arg 1; whnf)) | fail))
        rw [hS _ _ rfl rfl]
        have hg : goB (b.getD (k : Int).toNat eCr.dflt) (n.getD (Int.toNat 0 + (k : Int).toNat) eCr.dflt) = ((!decide ((n.getD (Int.toNat 0 + (k : Int).toNat) eCr.dflt).ti = 0)) && (decide ((b.getD (k : Int).toNat eCr.dflt).ti = 0) && !decide ((n.getD (Int.toNat 0 + (k : Int).toNat) eCr.dflt).ta = 0))) := rfl
        rw [hg]
        cases p1 : (!decide ((n.getD (Int.toNat 0 + (k : Int).toNat) eCr.dflt).ti = 0)) <;> cases p2 : decide ((b.getD (k : Int).toNat eCr.dflt).ti = 0) <;> cases p3 : (!decide ((n.getD (Int.toNat 0 + (k : Int).toNat) eCr.dflt).ta = 0))
        all_goals ((conv => arg 1; whnf); (repeat' (first | (refine brt (by assumption) ?_; (conv => arg 1; whnf)) | (refine brf (by assumption) ?_; (conv => arg 1; whnf)) | fail)))
        all_goals (refine joinTo () [] trivial (by decide) ?_ ?_ rfl)
        all_goals ((repeat' (first | exact True.intro | exact Fit.dead _ | exact Fit.v _ | exact .p rfl | exact .s rfl | exact .i fun _ _ => rfl | exact Fit.v' (congrArg Value.bool p3.symm) | refine And.intro ?_ ?_)))
      · refine br (fun h4 => ?_) (fun h4 => ?_)
        · (conv => arg 1; whnf); (repeat' (first | (refine brt (by assumption) ?_; (conv => arg 1; whnf)) | (refine brf (by assumption) ?_; (conv => arg 1; whnf)) | fail))
          refine leaveRet ?_
          show tr _
          (conv => arg 1; whnf); (repeat' (first | (refine brt (by assumption) ?_; (conv => arg 1; whnf)) | (refine brf (by assumption) ?_; (conv => arg 1; whnf)) | fail))
          refine finB ?_
          exact any_yes (by omega) h4
        · (conv => arg 1; whnf); (repeat' (first | (refine brt (by assumption) ?_; (conv => arg 1; whnf)) | (refine brf (by assumption) ?_; (conv => arg 1; whnf)) | fail))
          refine again (k + 1) [] ⟨hlt, fun j hj => ?_⟩ (by show m - (k + 1) < m - k; omega) (by decide) ?_ True.intro rfl
          · rcases Nat.lt_or_ge j k with h | h
            · exact hall j h
            · have : j = k := by omega
              subst this; exact h4
          · (repeat' (first | exact True.intro | exact Fit.dead _ | exact Fit.v _ | exact .p rfl | exact .s rfl | exact .i fun _ _ => rfl | exact Fit.v' (congrArg (Value.int .i64) (knxt k (by omega)).symm) | refine And.intro ?_ ?_))
    · have hkn : k = m := by
        have h4 : ¬ (k : Int) < ((m - 0 : Nat) : Int) := of_decide_eq_false h3
        omega
      (conv => arg 1; whnf); (repeat' (first | (refine brt (by assumption) ?_; (conv => arg 1; whnf)) | (refine brf (by assumption) ?_; (conv => arg 1; whnf)) | fail))
      refine leave ?_
      show tr _
      (conv => arg 1; whnf); (repeat' (first | (refine brt (by assumption) ?_; (conv => arg 1; whnf)) | (refine brf (by assumption) ?_; (conv => arg 1; whnf)) | fail))
      refine finB ?_
      exact any_no fun j hj => hall j (by omega)
end Go.Proofs.Ythdeehkmlaejfaa.E
