/- The law of links, by the engine. -/
import Derived.Test.YtohgniddfpjjfaaLinkE
import Derived.Test.YtohgniddfpjjfaaERow
namespace Go.Proofs.Ytohgniddfpjjfaa.E
open Go NumMath
set_option linter.unusedSimpArgs false
set_option maxRecDepth 100000
set_option maxHeartbeats 4000000

def lkNewG : List AV → St → Option (Bool × AV × St)
  | [], [] => some (true, .p 0 0, [.lit [i64 0, i64 (-1)]])
  | _, _ => none
theorem lkNew_ok : CtrOk Try.prog 31 (localCtr lkNewG) :=
  localCtr_ok X0_ok Try.func31 (by decide) rfl fun args σ u σ' h => by
    unfold lkNewG at h
    split at h
    case h_2 => cases h
    simp only [Option.some.injEq, Prod.mk.injEq] at h
    obtain ⟨_, rfl, rfl⟩ := h
    unfold runF
    (conv => arg 1; whnf)
    exact finS [0] (by decide) (.p rfl) ⟨⟨_, rfl, .lit (by repeat' (first | exact True.intro | exact Fit.dead _ | exact Fit.v _ | exact .i fun _ _ => rfl | exact Fit.ip | exact .p rfl | exact .q rfl | exact .s rfl | exact .y rfl | refine Fit.al ?_ | refine Fit.fl ?_ ?_ | refine And.intro ?_ ?_))⟩, trivial⟩ rfl
def XK0 : Cx := ((((((X2.add 31 (.foot footL) (localCtr lkNewG)).add 32 (.foot footL) (localCtr lkTakeG)).add 33 (.reads readsL) (borCtr lkSilentG)).add 36 (.reads readsL) (borCtr lkLiveG)).add 34 (.foot footL) (localCtr lkTickG)).add 37 (.foot footL) (localCtr rkTakeG)).add 35 (.reads readsL) (borCtr rkSilentG)
theorem XK0_ok : CxOk Try.prog XK0 := ((((((X2_ok.loc lkNew_ok).loc lkTake_ok).bor lkSilent_ok).bor lkLive_ok).loc lkTick_ok).loc rkTake_ok).bor rkSilent_ok
theorem speaks08_ok : CtrOk Try.prog 30 (pureCtr (fn0 (giv true (boo true)))) :=
  pureCtr_ok XK0_ok Try.func30 (by decide) rfl fun args u hh => by
    obtain ⟨rfl, hv⟩ := fn0_some hh
    obtain ⟨_, rfl⟩ := giv_some hv
    clear hh hv
    refine ⟨rfl, rfl, ?_⟩
    unfold runF
    (conv => arg 1; whnf)
    exact finB rfl
def XK : Cx := XK0.add 30 .pure (pureCtr (fn0 (giv true (boo true))))
theorem XK_ok : CxOk Try.prog XK := XK0_ok.pure speaks08_ok
def eAct : Elt (Int × Int) := ⟨2, fun u => match u with | [.v (.int .i64 a), .v (.int .i64 b)] => some (a, b) | _ => none, fun p => [i64 p.1, i64 p.2], (0, 0), fun {u a} h => (by split at h <;> first | (obtain rfl := Option.some.inj h; rfl) | cases h), fun _ => rfl⟩
theorem acts_arg {u : AV} (h : isArg tt 52 u) : ∃ (l : List (Int × Int)) (g : Nat → List AV), u = .i 2 l.length g ∧ IsRow eAct (.i 2 l.length g) l ∧ ∀ x ∈ l, -9223372036854775808 ≤ x.1 ∧ x.1 ≤ 9223372036854775807 ∧ -9223372036854775808 ≤ x.2 ∧ x.2 ≤ 9223372036854775807 := by
  obtain ⟨m, g, e, hm, hg⟩ := h
  obtain rfl := (List.cons.inj e).1
  obtain ⟨l, rfl, h1, h2⟩ := row_of eAct (m := m) (g := g) (p := fun x => -9223372036854775808 ≤ x.1 ∧ x.1 ≤ 9223372036854775807 ∧ -9223372036854775808 ≤ x.2 ∧ x.2 ≤ 9223372036854775807) (fun k hk => by
    obtain ⟨_, _, e1, ⟨a, rfl, w1⟩, _, _, rfl, ⟨b, rfl, w2⟩, rfl⟩ := hg k hk
    exact ⟨(a, b), e1, (wf_i64 w1).1, (wf_i64 w1).2, (wf_i64 w2).1, (wf_i64 w2).2⟩) (by have : m * 2 < 281474976710656 := hm; omega)
  exact ⟨l, g, rfl, h1, h2⟩
theorem int_arg {u : AV} (h : isArg tt 3 u) : ∃ n : Int, u = i64 n ∧ -9223372036854775808 ≤ n ∧ n ≤ 9223372036854775807 := by
  obtain ⟨n, e, w⟩ := h
  exact ⟨n, (List.cons.inj e).1, wf_i64 w⟩
theorem take_agree {ca : Bool} {la ti q : Int} (ht : 0 ≤ ti) : lkTake la (if ca = true then ti else -1) q = ((rkTake ca la ti q).1, (rkTake ca la ti q).2.2.1, if (rkTake ca la ti q).2.1 = true then (rkTake ca la ti q).2.2.2 else -1) := by
  unfold lkTake rkTake
  cases ca
  · simp only [Bool.false_eq_true, if_false, false_and, ne_eq, not_true_eq_false]
    split <;> simp
  · simp only [if_true, true_and, ne_eq, show ¬ ti = -1 by omega, not_false_eq_true]
    split
    · simp
    · split <;> simp
theorem rkTake_bd {ca : Bool} {la ti q : Int} (h1 : 0 ≤ la) (h2 : la ≤ 65535) (h3 : 0 ≤ ti) : 0 ≤ (rkTake ca la ti q).2.2.1 ∧ (rkTake ca la ti q).2.2.1 ≤ 65535 ∧ 0 ≤ (rkTake ca la ti q).2.2.2 ∧ (rkTake ca la ti q).2.2.2 ≤ ti := by
  unfold rkTake
  split
  · simp only; omega
  · split
    · simp only; omega
    · simp only; omega
theorem LinkActs (us : List AV) (h : areArgs tt [52, 3] us) : runF XK Try.f11 us [] (boo true) [] := by
  obtain ⟨_, _, rfl, hs, _, _, rfl, hl, rfl⟩ := h
  obtain ⟨l, g, rfl, hl1, hl2⟩ := acts_arg hs
  obtain ⟨t, rfl, ht⟩ := int_arg hl
  clear hs hl
  have hlen := hl1.len
  unfold runF
  (conv => arg 1; whnf)
  refine br (fun h => ?_) (fun h => ?_)
  · (conv => arg 1; whnf); (repeat' (first | (refine brt (by assumption) ?_; (conv => arg 1; whnf)) | (refine brf (by assumption) ?_; (conv => arg 1; whnf)) | fail))
    exact finB rfl
  · have h100 := of_decide_eq_false h
    (conv => arg 1; whnf); (repeat' (first | (refine brt (by assumption) ?_; (conv => arg 1; whnf)) | (refine brf (by assumption) ?_; (conv => arg 1; whnf)) | fail))
    refine loopIn (fun x : Nat × Int × Bool × Int => x.1 ≤ l.length ∧ 0 ≤ x.2.1 ∧ x.2.1 ≤ 65535 ∧ 0 ≤ x.2.2.2 ∧ x.2.2.2 ≤ 127 * x.1)
      (fun x => frm 84 [(1, i64 t), (5, .p 0 0), (6, .p 1 0), (18, row eAct l), (19, i64 l.length), (20, i64 x.1)])
      (fun x => [.lit [i64 x.2.1, i64 (if x.2.2.1 = true then x.2.2.2 else -1)], .lit [boo x.2.2.1, i64 x.2.1, i64 x.2.2.2]])
      (fun x => l.length - x.1) (0, 0, false, 0) [0, 1] (by simp) (by decide) ?_ ?_ rfl fun x hi => ?_
    · repeat' (first | exact True.intro | exact Fit.dead _ | exact Fit.v _ | exact hl1.fit _ _ | exact .p rfl | refine And.intro ?_ ?_)
    · exact ⟨⟨_, rfl, .lit (by repeat' (first | exact True.intro | exact Fit.dead _ | exact Fit.v _ | exact .i fun _ _ => rfl | exact Fit.ip | exact .p rfl | exact .q rfl | exact .s rfl | exact .y rfl | refine Fit.al ?_ | refine Fit.fl ?_ ?_ | refine And.intro ?_ ?_))⟩, ⟨_, rfl, .lit (by repeat' (first | exact True.intro | exact Fit.dead _ | exact Fit.v _ | exact .i fun _ _ => rfl | exact Fit.ip | exact .p rfl | exact .q rfl | exact .s rfl | exact .y rfl | refine Fit.al ?_ | refine Fit.fl ?_ ?_ | refine And.intro ?_ ?_))⟩, trivial⟩
    · obtain ⟨i, la, ca, ti⟩ := x
      obtain ⟨i1, i2, i3, i4, i5⟩ := hi
      simp only at i1 i2 i3 i4 i5
      (conv => arg 1; whnf)
      refine br (fun h => ?_) (fun h => ?_)
      · have hil : i < l.length := by have := of_decide_eq_true h; simp only at this; omega
        have e1 : (decide (0 ≤ (i : Int)) && decide ((i : Int) < (l.length : Int))) = true := by simp only [Bool.and_eq_true, decide_eq_true_eq]; omega
        generalize hp : l.getD i eAct.dflt = p
        (conv => arg 1; whnf); (repeat' (first | (refine brt (by assumption) ?_; (conv => arg 1; whnf)) | (refine brf (by assumption) ?_; (conv => arg 1; whnf)) | fail))
        have hm : bits .and .i64 (l.getD i eAct.dflt).1 127 = (l.getD i eAct.dflt).1 % 128 := and127 _
        refine loopIn (fun y : Nat × Int => y.1 ≤ 127 ∧ 0 ≤ y.2 ∧ y.2 ≤ 127 * i + y.1)
          (fun y => frm 84 [(1, i64 t), (5, .p 0 0), (6, .p 1 0), (8, .p 2 0), (9, i64 y.1), (18, row eAct l), (19, i64 l.length), (20, i64 i)])
          (fun y => [.lit [i64 la, i64 (if ca = true then y.2 else -1)], .lit [boo ca, i64 la, i64 y.2], .lit [i64 (l.getD i eAct.dflt).1, i64 (l.getD i eAct.dflt).2]])
          (fun y => 127 - y.1) (0, ti) [0, 1, 2] (by simp only; omega) (by decide) ?_ ?_ rfl fun y hi => ?_
        · repeat' (first | exact True.intro | exact Fit.dead _ | exact Fit.v _ | exact .i fun _ _ => rfl | exact Fit.ip | exact .p rfl | exact .q rfl | exact .s rfl | exact .y rfl | refine Fit.al ?_ | refine Fit.fl ?_ ?_ | refine And.intro ?_ ?_)
        · exact ⟨⟨_, rfl, .lit (by repeat' (first | exact True.intro | exact Fit.dead _ | exact Fit.v _ | exact .i fun _ _ => rfl | exact Fit.ip | exact .p rfl | exact .q rfl | exact .s rfl | exact .y rfl | refine Fit.al ?_ | refine Fit.fl ?_ ?_ | refine And.intro ?_ ?_))⟩, ⟨_, rfl, .lit (by repeat' (first | exact True.intro | exact Fit.dead _ | exact Fit.v _ | exact .i fun _ _ => rfl | exact Fit.ip | exact .p rfl | exact .q rfl | exact .s rfl | exact .y rfl | refine Fit.al ?_ | refine Fit.fl ?_ ?_ | refine And.intro ?_ ?_))⟩, ⟨_, rfl, .lit (by repeat' (first | exact True.intro | exact Fit.dead _ | exact Fit.v _ | exact .i fun _ _ => rfl | exact Fit.ip | exact .p rfl | exact .q rfl | exact .s rfl | exact .y rfl | refine Fit.al ?_ | refine Fit.fl ?_ ?_ | refine And.intro ?_ ?_))⟩, trivial⟩
        · obtain ⟨j, tj⟩ := y
          obtain ⟨j1, j2, j3⟩ := hi
          simp only at j1 j2 j3
          (conv => arg 1; whnf)
          refine br (fun h => ?_) (fun h => ?_)
          · have hj := of_decide_eq_true h
            simp only [hm] at hj
            (conv => arg 1; whnf)
            refine br (fun hca => ?_) (fun hca => ?_)
            · refine again (j + 1, tj + 1) [0, 1, 2] ?_ ?_ (by decide) ?_ ?_ ?_
              · show j + 1 ≤ 127 ∧ 0 ≤ tj + 1 ∧ tj + 1 ≤ 127 * (i : Int) + (j + 1 : Nat)
                omega
              · show 127 - (j + 1) < 127 - j
                omega
              · repeat' (first | exact True.intro | exact Fit.dead _ | exact Fit.v _ | exact .i fun _ _ => rfl | exact Fit.ip | exact .p rfl | exact .q rfl | exact .s rfl | exact .y rfl | refine Fit.al ?_ | refine Fit.fl ?_ ?_ | refine And.intro ?_ ?_)
                exact Fit.v' (congrArg (Value.int .i64) (show ((j + 1 : Nat) : Int) = IntKind.i64.wrap ((j : Int) + 1) by rw [wil _ (by omega) (by omega)]; omega))
              · refine ⟨⟨_, rfl, .lit ⟨.v _, .v' (congrArg (Value.int .i64) ?_), trivial⟩⟩, ⟨_, rfl, .lit ⟨.v _, .v _, .v' (congrArg (Value.int .i64) ?_), trivial⟩⟩, ⟨_, rfl, .lit (by repeat' (first | exact True.intro | exact Fit.dead _ | exact Fit.v _ | exact .i fun _ _ => rfl | exact Fit.ip | exact .p rfl | exact .q rfl | exact .s rfl | exact .y rfl | refine Fit.al ?_ | refine Fit.fl ?_ ?_ | refine And.intro ?_ ?_))⟩, trivial⟩
                · show (if ca = true then tj + 1 else -1) = if (if ca = true then tj else -1) = -1 then -1 else lim (lim (if ca = true then tj else -1) + lim 1)
                  rw [if_pos hca, if_pos hca, if_neg (by omega), lim_id (a := tj) (by omega) (by omega), lim_id (a := 1) (by omega) (by omega), lim_id (by omega) (by omega)]
                · exact (wil _ (by omega) (by omega)).symm
              · rfl
            · refine again (j + 1, tj) [0, 1, 2] ?_ ?_ (by decide) ?_ ?_ ?_
              · show j + 1 ≤ 127 ∧ 0 ≤ tj ∧ tj ≤ 127 * (i : Int) + (j + 1 : Nat)
                omega
              · show 127 - (j + 1) < 127 - j
                omega
              · repeat' (first | exact True.intro | exact Fit.dead _ | exact Fit.v _ | exact .i fun _ _ => rfl | exact Fit.ip | exact .p rfl | exact .q rfl | exact .s rfl | exact .y rfl | refine Fit.al ?_ | refine Fit.fl ?_ ?_ | refine And.intro ?_ ?_)
                exact Fit.v' (congrArg (Value.int .i64) (show ((j + 1 : Nat) : Int) = IntKind.i64.wrap ((j : Int) + 1) by rw [wil _ (by omega) (by omega)]; omega))
              · refine ⟨⟨_, rfl, .lit ⟨.v _, .v' (congrArg (Value.int .i64) ?_), trivial⟩⟩, ⟨_, rfl, .lit (by repeat' (first | exact True.intro | exact Fit.dead _ | exact Fit.v _ | exact .i fun _ _ => rfl | exact Fit.ip | exact .p rfl | exact .q rfl | exact .s rfl | exact .y rfl | refine Fit.al ?_ | refine Fit.fl ?_ ?_ | refine And.intro ?_ ?_))⟩, ⟨_, rfl, .lit (by repeat' (first | exact True.intro | exact Fit.dead _ | exact Fit.v _ | exact .i fun _ _ => rfl | exact Fit.ip | exact .p rfl | exact .q rfl | exact .s rfl | exact .y rfl | refine Fit.al ?_ | refine Fit.fl ?_ ?_ | refine And.intro ?_ ?_))⟩, trivial⟩
                show (if ca = true then tj else -1) = if (if ca = true then tj else -1) = -1 then -1 else lim (lim (if ca = true then tj else -1) + lim 1)
                have hca' : ¬ ca = true := by rw [hca]; decide
                rw [if_neg hca', if_pos rfl]
              · rfl
          · (conv => arg 1; whnf)
            refine leave ?_
            show tr _
            have g1 : (!decide ((if ca = true then tj else -1) = if ca = true then tj else -1)) = false := by simp
            rcases ca with _ | _
            · have e0 : (decide (0 ≤ la) && decide (la ≤ 65535)) = true := by simp only [Bool.and_eq_true, decide_eq_true_eq]; omega
              (conv => arg 1; whnf); (repeat' (first | (refine brt (by assumption) ?_; (conv => arg 1; whnf)) | (refine brf (by assumption) ?_; (conv => arg 1; whnf)) | fail))
              have ta := take_agree (ca := false) (la := la) (ti := tj) (q := (l.getD i eAct.dflt).2) j2
              have tb := rkTake_bd (ca := false) (la := la) (ti := tj) (q := (l.getD i eAct.dflt).2) i2 i3 j2
              have e3 : (!decide ((lkTake la (if false = true then tj else -1) (l.getD i eAct.dflt).2).1 = (rkTake false la tj (l.getD i eAct.dflt).2).1)) = false := by rw [ta]; simp
              have e4 : (!decide ((lkTake la (if false = true then tj else -1) (l.getD i eAct.dflt).2).2.2 = (if (rkTake false la tj (l.getD i eAct.dflt).2).2.1 = true then (rkTake false la tj (l.getD i eAct.dflt).2).2.2.2 else -1))) = false := by rw [ta]; simp
              (conv => arg 1; whnf); (repeat' (first | (refine brt (by assumption) ?_; (conv => arg 1; whnf)) | (refine brf (by assumption) ?_; (conv => arg 1; whnf)) | fail))
              refine again (i + 1, (rkTake false la tj (l.getD i eAct.dflt).2).2.2.1, (rkTake false la tj (l.getD i eAct.dflt).2).2.1, (rkTake false la tj (l.getD i eAct.dflt).2).2.2.2) [0, 1] ?_ ?_ (by decide) ?_ ?_ ?_
              · refine ⟨hil, tb.1, tb.2.1, tb.2.2.1, ?_⟩
                show (rkTake false la tj (l.getD i eAct.dflt).2).2.2.2 ≤ 127 * ((i + 1 : Nat) : Int)
                have := tb.2.2.2
                omega
              · show l.length - (i + 1) < l.length - i
                omega
              · repeat' (first | exact True.intro | exact Fit.dead _ | exact Fit.v _ | exact .i fun _ _ => rfl | exact Fit.ip | exact .p rfl | exact .q rfl | exact .s rfl | exact .y rfl | refine Fit.al ?_ | refine Fit.fl ?_ ?_ | refine And.intro ?_ ?_)
                exact Fit.v' (congrArg (Value.int .i64) (show ((i + 1 : Nat) : Int) = IntKind.i64.wrap ((i : Int) + 1) by rw [wil _ (by omega) (by omega)]; omega))
              · refine ⟨⟨_, rfl, .lit ⟨.v' (congrArg (Value.int .i64) ?_), .v' (congrArg (Value.int .i64) ?_), trivial⟩⟩, ⟨_, rfl, .lit (by repeat' (first | exact True.intro | exact Fit.dead _ | exact Fit.v _ | exact .i fun _ _ => rfl | exact Fit.ip | exact .p rfl | exact .q rfl | exact .s rfl | exact .y rfl | refine Fit.al ?_ | refine Fit.fl ?_ ?_ | refine And.intro ?_ ?_))⟩, trivial⟩
                · exact (congrArg (fun z => z.2.1) ta).symm
                · exact (congrArg (fun z => z.2.2) ta).symm
              · rfl
            · have e0 : (decide (0 ≤ la) && decide (la ≤ 65535)) = true := by simp only [Bool.and_eq_true, decide_eq_true_eq]; omega
              have e2 : (!(decide ((if true = true then tj else -1) ≠ -1) && decide ((if true = true then tj else -1) < t)) == decide (tj < t)) = false := by
                rw [if_pos rfl, decide_eq_true (by omega : tj ≠ -1)]; simp
              (conv => arg 1; whnf); (repeat' (first | (refine brt (by assumption) ?_; (conv => arg 1; whnf)) | (refine brf (by assumption) ?_; (conv => arg 1; whnf)) | fail))
              have ta := take_agree (ca := true) (la := la) (ti := tj) (q := (l.getD i eAct.dflt).2) j2
              have tb := rkTake_bd (ca := true) (la := la) (ti := tj) (q := (l.getD i eAct.dflt).2) i2 i3 j2
              have e3 : (!decide ((lkTake la (if true = true then tj else -1) (l.getD i eAct.dflt).2).1 = (rkTake true la tj (l.getD i eAct.dflt).2).1)) = false := by rw [ta]; simp
              have e4 : (!decide ((lkTake la (if true = true then tj else -1) (l.getD i eAct.dflt).2).2.2 = (if (rkTake true la tj (l.getD i eAct.dflt).2).2.1 = true then (rkTake true la tj (l.getD i eAct.dflt).2).2.2.2 else -1))) = false := by rw [ta]; simp
              (conv => arg 1; whnf); (repeat' (first | (refine brt (by assumption) ?_; (conv => arg 1; whnf)) | (refine brf (by assumption) ?_; (conv => arg 1; whnf)) | fail))
              refine again (i + 1, (rkTake true la tj (l.getD i eAct.dflt).2).2.2.1, (rkTake true la tj (l.getD i eAct.dflt).2).2.1, (rkTake true la tj (l.getD i eAct.dflt).2).2.2.2) [0, 1] ?_ ?_ (by decide) ?_ ?_ ?_
              · refine ⟨hil, tb.1, tb.2.1, tb.2.2.1, ?_⟩
                show (rkTake true la tj (l.getD i eAct.dflt).2).2.2.2 ≤ 127 * ((i + 1 : Nat) : Int)
                have := tb.2.2.2
                omega
              · show l.length - (i + 1) < l.length - i
                omega
              · repeat' (first | exact True.intro | exact Fit.dead _ | exact Fit.v _ | exact .i fun _ _ => rfl | exact Fit.ip | exact .p rfl | exact .q rfl | exact .s rfl | exact .y rfl | refine Fit.al ?_ | refine Fit.fl ?_ ?_ | refine And.intro ?_ ?_)
                exact Fit.v' (congrArg (Value.int .i64) (show ((i + 1 : Nat) : Int) = IntKind.i64.wrap ((i : Int) + 1) by rw [wil _ (by omega) (by omega)]; omega))
              · refine ⟨⟨_, rfl, .lit ⟨.v' (congrArg (Value.int .i64) ?_), .v' (congrArg (Value.int .i64) ?_), trivial⟩⟩, ⟨_, rfl, .lit (by repeat' (first | exact True.intro | exact Fit.dead _ | exact Fit.v _ | exact .i fun _ _ => rfl | exact Fit.ip | exact .p rfl | exact .q rfl | exact .s rfl | exact .y rfl | refine Fit.al ?_ | refine Fit.fl ?_ ?_ | refine And.intro ?_ ?_))⟩, trivial⟩
                · exact (congrArg (fun z => z.2.1) ta).symm
                · exact (congrArg (fun z => z.2.2) ta).symm
              · rfl
      · (conv => arg 1; whnf)
        refine leave ?_
        show tr _
        (conv => arg 1; whnf); (repeat' (first | (refine brt (by assumption) ?_; (conv => arg 1; whnf)) | (refine brf (by assumption) ?_; (conv => arg 1; whnf)) | fail))
        exact finB rfl
end Go.Proofs.Ytohgniddfpjjfaa.E
