/- The law RuleOldest, by the engine. -/
import Derived.Test.YtejpheapjklpgaaSpeakRuleE
import Derived.Test.YtejpheapjklpgaaArgsE
namespace Go.Proofs.Ytejpheapjklpgaa.E
open Go NumMath
set_option linter.unusedSimpArgs false
set_option linter.unusedVariables false
set_option maxRecDepth 100000
set_option maxHeartbeats 8000000
structure Call where
  (fl ca ag : Int)
  up : Bool
def Call.cs (c : Call) : List AV := [i64 c.fl, i64 c.ca, i64 c.ag, boo c.up]
def eC : Elt Call := ⟨4, fun u => match u with | [.v (.int .i64 a), .v (.int .i64 b), .v (.int .i64 c), .v (.bool d)] => some ⟨a, b, c, d⟩ | _ => none, Call.cs, ⟨0, 0, 0, false⟩, fun {u a} h => (by split at h <;> first | (obtain rfl := Option.some.inj h; rfl) | cases h), fun _ => rfl⟩
theorem calls_arg {u : AV} (h : isArg tt 22 u) : ∃ l : List Call, u = row eC l ∧ l.length < 281474976710656 := by
  obtain ⟨m, g, e, hm, hg, hz⟩ := h
  obtain rfl := (List.cons.inj e).1
  obtain ⟨l, e, h1, _⟩ := row_eq eC (m := m) (g := g) (p := fun _ => True) (fun k hk => by
    obtain ⟨_, _, e1, ⟨a, rfl, _⟩, _, _, rfl, ⟨b, rfl, _⟩, _, _, rfl, ⟨c, rfl, _⟩, _, _, rfl, ⟨d, rfl⟩, rfl⟩ := hg k hk
    exact ⟨⟨a, b, c, d⟩, e1, trivial⟩) hz (by have : m * 4 < 281474976710656 := hm; omega)
  exact ⟨l, e, h1⟩
/-! ### The oldest one -/
def oldB (l : List Call) (car age best : Int) (k : Nat) : Bool := (decide (age ≤ (l.getD k eC.dflt).ag) && (decide ((l.getD k eC.dflt).ca < 0) || decide ((l.getD k eC.dflt).ca = car))) && (decide (best < 0) || decide ((l.getD best.toNat eC.dflt).ag < (l.getD k eC.dflt).ag))
def oldK (l : List Call) (car age : Int) : Nat → Int
  | 0 => -1
  | k + 1 => cond (oldB l car age (oldK l car age k) k) (k : Int) (oldK l car age k)
theorem oldK_bd (l : List Call) (car age : Int) : ∀ k, -1 ≤ oldK l car age k ∧ oldK l car age k < k
  | 0 => ⟨by show (-1 : Int) ≤ -1; decide, by show (-1 : Int) < ((0 : Nat) : Int); decide⟩
  | k + 1 => by
    have ih := oldK_bd l car age k
    unfold oldK
    cases oldB l car age (oldK l car age k) k with
    | true => simp only [cond]; omega
    | false => simp only [cond]; omega
theorem nxt' (k : Nat) (h : k ≤ 1000000000) : IntKind.i64.wrap ((k : Int) + 1) = ((k + 1 : Nat) : Int) := by rw [i64w _ (by omega) (by omega)]; omega
def oldG : List AV → Option (Bool × AV) := ad3 (adR eC) adI adI fun l car age => giv (decide (l.length ≤ 1000000)) (i64 (oldK l car age l.length))
def XRF : Cx := XN0.join 100001
theorem XRF_ok : CxOk Try.prog XRF := XN0_ok.join 100001 rfl
theorem rold_ok : CtrOk Try.prog 7 (borCtr oldG) :=
  borCtr_can XRF_ok Try.func7 (by decide) rfl fun args u h => by
    obtain ⟨l, car, age, hf, hl, _, _, hv⟩ := ad3_some h
    obtain ⟨hal, rfl⟩ := giv_some hv
    have hal := of_decide_eq_true hal
    refine ⟨_, hf, ?_⟩
    clear h hv hf
    unfold runF
    (conv => arg 1; whnf)
    refine loopIn (fun k : Nat => k ≤ l.length) (fun k => frm 58 [(0, row eC l), (1, i64 car), (2, i64 age), (7, i64 (oldK l car age k)), (8, i64 k)]) (fun _ => []) (fun k => l.length - k) 0 [] (Nat.zero_le _) List.nodup_nil ?_ True.intro rfl fun k hk => ?_
    · repeat' (first | exact True.intro | exact Fit.dead _ | exact Fit.v _ | exact row_self eC _ | refine And.intro ?_ ?_)
    · have hk : k ≤ l.length := hk
      (conv => arg 1; whnf)
      refine br (fun h1 => ?_) (fun h1 => ?_)
      · have hlt : k < l.length := by have := of_decide_eq_true h1; omega
        have e1 : (decide (0 ≤ (k : Int)) && decide ((k : Int) < (l.length : Int))) = true := by simp only [Bool.and_eq_true, decide_eq_true_eq]; omega
        have ek : (k : Int).toNat = k := by omega
        have hb := oldK_bd l car age k
        (conv => arg 1; whnf); (repeat' (first | (refine brt (by assumption) ?_; (conv => arg 1; whnf)) | (refine brf (by assumption) ?_; (conv => arg 1; whnf)) | fail))
        refine joinIn (fun _ : Unit => True) (fun _ => frm 58 [(0, row eC l), (1, i64 car), (2, i64 age), (7, i64 (oldK l car age (k + 1))), (8, i64 k)]) (fun _ => []) ?_ (fun _ _ => ?_)
        · (conv => arg 1; whnf); (repeat' (first | (refine brt (by assumption) ?_; (conv => arg 1; whnf)) | (refine brf (by assumption) ?_; (conv => arg 1; whnf)) | fail))
          cases h2 : decide (age ≤ (l.getD (k : Int).toNat eC.dflt).ag) with
          | false =>
            (conv => arg 1; whnf); (repeat' (first | (refine brt (by assumption) ?_; (conv => arg 1; whnf)) | (refine brf (by assumption) ?_; (conv => arg 1; whnf)) | fail))
            refine joinTo () [] trivial List.nodup_nil ?_ True.intro rfl
            have e : oldK l car age (k + 1) = (oldK l car age k) := by
              show cond (oldB l car age (oldK l car age k) k) (k : Int) (oldK l car age k) = _
              unfold oldB
              rw [ek] at *
              simp only [h2, Bool.true_and, Bool.false_and, Bool.and_true, Bool.and_false, Bool.true_or, Bool.false_or, Bool.or_true, Bool.or_false, cond]
            rw [e]
            repeat' (first | exact True.intro | exact Fit.dead _ | exact Fit.v _ | exact row_self eC _ | refine And.intro ?_ ?_)
          | true =>
            cases h3 : decide ((l.getD (k : Int).toNat eC.dflt).ca < 0) with
            | true =>
              cases h5 : decide ((oldK l car age k) < 0) with
              | true =>
                (conv => arg 1; whnf); (repeat' (first | (refine brt (by assumption) ?_; (conv => arg 1; whnf)) | (refine brf (by assumption) ?_; (conv => arg 1; whnf)) | fail))
                refine joinTo () [] trivial List.nodup_nil ?_ True.intro rfl
                have e : oldK l car age (k + 1) = (k : Int) := by
                  show cond (oldB l car age (oldK l car age k) k) (k : Int) (oldK l car age k) = _
                  unfold oldB
                  rw [ek] at *
                  simp only [h2, h3, h5, Bool.true_and, Bool.false_and, Bool.and_true, Bool.and_false, Bool.true_or, Bool.false_or, Bool.or_true, Bool.or_false, cond]
                rw [e]
                repeat' (first | exact True.intro | exact Fit.dead _ | exact Fit.v _ | exact row_self eC _ | refine And.intro ?_ ?_)
              | false =>
                have hp : (decide (0 ≤ (oldK l car age k)) && decide ((oldK l car age k) < (l.length : Int))) = true := by have := of_decide_eq_false h5; simp only [Bool.and_eq_true, decide_eq_true_eq]; omega
                cases h6 : decide ((l.getD (oldK l car age k).toNat eC.dflt).ag < (l.getD (k : Int).toNat eC.dflt).ag) with
                | true =>
                  (conv => arg 1; whnf); (repeat' (first | (refine brt (by assumption) ?_; (conv => arg 1; whnf)) | (refine brf (by assumption) ?_; (conv => arg 1; whnf)) | fail))
                  refine joinTo () [] trivial List.nodup_nil ?_ True.intro rfl
                  have e : oldK l car age (k + 1) = (k : Int) := by
                    show cond (oldB l car age (oldK l car age k) k) (k : Int) (oldK l car age k) = _
                    unfold oldB
                    rw [ek] at *
                    simp only [h2, h3, h5, h6, Bool.true_and, Bool.false_and, Bool.and_true, Bool.and_false, Bool.true_or, Bool.false_or, Bool.or_true, Bool.or_false, cond]
                  rw [e]
                  repeat' (first | exact True.intro | exact Fit.dead _ | exact Fit.v _ | exact row_self eC _ | refine And.intro ?_ ?_)
                | false =>
                  (conv => arg 1; whnf); (repeat' (first | (refine brt (by assumption) ?_; (conv => arg 1; whnf)) | (refine brf (by assumption) ?_; (conv => arg 1; whnf)) | fail))
                  refine joinTo () [] trivial List.nodup_nil ?_ True.intro rfl
                  have e : oldK l car age (k + 1) = (oldK l car age k) := by
                    show cond (oldB l car age (oldK l car age k) k) (k : Int) (oldK l car age k) = _
                    unfold oldB
                    rw [ek] at *
                    simp only [h2, h3, h5, h6, Bool.true_and, Bool.false_and, Bool.and_true, Bool.and_false, Bool.true_or, Bool.false_or, Bool.or_true, Bool.or_false, cond]
                  rw [e]
                  repeat' (first | exact True.intro | exact Fit.dead _ | exact Fit.v _ | exact row_self eC _ | refine And.intro ?_ ?_)
            | false =>
              cases h4 : decide ((l.getD (k : Int).toNat eC.dflt).ca = car) with
              | false =>
                (conv => arg 1; whnf); (repeat' (first | (refine brt (by assumption) ?_; (conv => arg 1; whnf)) | (refine brf (by assumption) ?_; (conv => arg 1; whnf)) | fail))
                refine joinTo () [] trivial List.nodup_nil ?_ True.intro rfl
                have e : oldK l car age (k + 1) = (oldK l car age k) := by
                  show cond (oldB l car age (oldK l car age k) k) (k : Int) (oldK l car age k) = _
                  unfold oldB
                  rw [ek] at *
                  simp only [h2, h3, h4, Bool.true_and, Bool.false_and, Bool.and_true, Bool.and_false, Bool.true_or, Bool.false_or, Bool.or_true, Bool.or_false, cond]
                rw [e]
                repeat' (first | exact True.intro | exact Fit.dead _ | exact Fit.v _ | exact row_self eC _ | refine And.intro ?_ ?_)
              | true =>
                cases h5 : decide ((oldK l car age k) < 0) with
                | true =>
                  (conv => arg 1; whnf); (repeat' (first | (refine brt (by assumption) ?_; (conv => arg 1; whnf)) | (refine brf (by assumption) ?_; (conv => arg 1; whnf)) | fail))
                  refine joinTo () [] trivial List.nodup_nil ?_ True.intro rfl
                  have e : oldK l car age (k + 1) = (k : Int) := by
                    show cond (oldB l car age (oldK l car age k) k) (k : Int) (oldK l car age k) = _
                    unfold oldB
                    rw [ek] at *
                    simp only [h2, h3, h4, h5, Bool.true_and, Bool.false_and, Bool.and_true, Bool.and_false, Bool.true_or, Bool.false_or, Bool.or_true, Bool.or_false, cond]
                  rw [e]
                  repeat' (first | exact True.intro | exact Fit.dead _ | exact Fit.v _ | exact row_self eC _ | refine And.intro ?_ ?_)
                | false =>
                  have hp : (decide (0 ≤ (oldK l car age k)) && decide ((oldK l car age k) < (l.length : Int))) = true := by have := of_decide_eq_false h5; simp only [Bool.and_eq_true, decide_eq_true_eq]; omega
                  cases h6 : decide ((l.getD (oldK l car age k).toNat eC.dflt).ag < (l.getD (k : Int).toNat eC.dflt).ag) with
                  | true =>
                    (conv => arg 1; whnf); (repeat' (first | (refine brt (by assumption) ?_; (conv => arg 1; whnf)) | (refine brf (by assumption) ?_; (conv => arg 1; whnf)) | fail))
                    refine joinTo () [] trivial List.nodup_nil ?_ True.intro rfl
                    have e : oldK l car age (k + 1) = (k : Int) := by
                      show cond (oldB l car age (oldK l car age k) k) (k : Int) (oldK l car age k) = _
                      unfold oldB
                      rw [ek] at *
                      simp only [h2, h3, h4, h5, h6, Bool.true_and, Bool.false_and, Bool.and_true, Bool.and_false, Bool.true_or, Bool.false_or, Bool.or_true, Bool.or_false, cond]
                    rw [e]
                    repeat' (first | exact True.intro | exact Fit.dead _ | exact Fit.v _ | exact row_self eC _ | refine And.intro ?_ ?_)
                  | false =>
                    (conv => arg 1; whnf); (repeat' (first | (refine brt (by assumption) ?_; (conv => arg 1; whnf)) | (refine brf (by assumption) ?_; (conv => arg 1; whnf)) | fail))
                    refine joinTo () [] trivial List.nodup_nil ?_ True.intro rfl
                    have e : oldK l car age (k + 1) = (oldK l car age k) := by
                      show cond (oldB l car age (oldK l car age k) k) (k : Int) (oldK l car age k) = _
                      unfold oldB
                      rw [ek] at *
                      simp only [h2, h3, h4, h5, h6, Bool.true_and, Bool.false_and, Bool.and_true, Bool.and_false, Bool.true_or, Bool.false_or, Bool.or_true, Bool.or_false, cond]
                    rw [e]
                    repeat' (first | exact True.intro | exact Fit.dead _ | exact Fit.v _ | exact row_self eC _ | refine And.intro ?_ ?_)
        · (conv => arg 1; whnf); (repeat' (first | (refine brt (by assumption) ?_; (conv => arg 1; whnf)) | (refine brf (by assumption) ?_; (conv => arg 1; whnf)) | fail))
          refine again (k + 1) [] hlt (by show l.length - (k + 1) < l.length - k; omega) List.nodup_nil ?_ True.intro rfl
          repeat' (first | exact True.intro | exact Fit.dead _ | exact Fit.v _ | exact row_self eC _ | exact Fit.v' (congrArg (Value.int .i64) (nxt k (by omega)).symm) | refine And.intro ?_ ?_)
      · have hkl : k = l.length := by have := of_decide_eq_false h1; omega
        subst hkl
        (conv => arg 1; whnf); (repeat' (first | (refine brt (by assumption) ?_; (conv => arg 1; whnf)) | (refine brf (by assumption) ?_; (conv => arg 1; whnf)) | fail))
        refine leave ?_
        show tr _
        (conv => arg 1; whnf); (repeat' (first | (refine brt (by assumption) ?_; (conv => arg 1; whnf)) | (refine brf (by assumption) ?_; (conv => arg 1; whnf)) | fail))
        exact fin0 (.v _)
def oldF (l : List Call) (car age : Int) (k : Nat) : Call := cond (decide (oldK l car age k < 0)) eC.dflt (l.getD (oldK l car age k).toNat eC.dflt)
noncomputable def XO : Cx := (XN0.addRun 6 (runFn XN0 Try.f6 (bodyOf Try.f6))).join 100001
theorem XO_ok : CxOk Try.prog XO := (XN0_ok.addRun (runFn_ok XN0_ok Try.func6 (by decide) rfl)).join 100001 rfl
noncomputable def XRO : Cx := ((XN0.add 4 .pure (pureCtr (fn0 (giv true (boo true))))).add 7 (.reads readsL) (borCtr oldG)).addRun 5 (runFn XO Try.f5 (bodyOf Try.f5))
theorem XRO_ok : CxOk Try.prog XRO := ((XN0_ok.pure speaks14_ok).bor rold_ok).addRun (runFn_ok XO_ok Try.func5 (by decide) rfl)
theorem RuleOldest (us : List AV) (h : areArgs tt [22, 3, 3] us) : runF XRO Try.f3 us [] (boo true) [] := by
  obtain ⟨_, _, rfl, hs, _, _, rfl, ha, _, _, rfl, hb, rfl⟩ := h
  obtain ⟨l, rfl, hl⟩ := calls_arg hs
  obtain ⟨car, rfl, _, _⟩ := int_arg ha
  obtain ⟨age, rfl, _, _⟩ := int_arg hb
  clear hs ha hb
  unfold runF
  (conv => arg 1; whnf); (repeat' (first | (refine brt (by assumption) ?_; (conv => arg 1; whnf)) | (refine brf (by assumption) ?_; (conv => arg 1; whnf)) | fail))
  refine br (fun h => ?_) (fun h => ?_)
  · (conv => arg 1; whnf); (repeat' (first | (refine brt (by assumption) ?_; (conv => arg 1; whnf)) | (refine brf (by assumption) ?_; (conv => arg 1; whnf)) | fail))
    exact finB rfl
  · have hn : l.length ≤ 200 := by have := of_decide_eq_false h; omega
    (conv => arg 1; whnf); (repeat' (first | (refine brt (by assumption) ?_; (conv => arg 1; whnf)) | (refine brf (by assumption) ?_; (conv => arg 1; whnf)) | fail))
    refine loopIn (fun k : Nat => k ≤ l.length) (fun k => frm 40 [(1, .f (.func 6) [] [.p 0 0]), (2, i64 age), (6, .p 1 0), (7, boo (!(decide (oldK l car age k < 0)))), (10, row eC l), (11, i64 l.length), (12, i64 k)]) (fun k => [.lit [i64 car], .lit (oldF l car age k).cs]) (fun k => l.length - k) 0 [0, 1] (Nat.zero_le _) (by decide) ?_ ?_ rfl fun k hk => ?_
    · repeat' (first | exact True.intro | exact Fit.dead _ | exact Fit.v _ | exact .p rfl | exact row_self eC _ | refine Fit.fl ?_ ?_ | refine And.intro ?_ ?_)
    · exact ⟨⟨_, rfl, .lit (by repeat' (first | exact True.intro | exact Fit.dead _ | exact Fit.v _ | exact .i fun _ _ => rfl | exact Fit.ip | exact .p rfl | exact .q rfl | exact .s rfl | exact .y rfl | refine Fit.al ?_ | refine Fit.fl ?_ ?_ | refine And.intro ?_ ?_))⟩, ⟨_, rfl, .lit (by repeat' (first | exact True.intro | exact Fit.dead _ | exact Fit.v _ | exact .i fun _ _ => rfl | exact Fit.ip | exact .p rfl | exact .q rfl | exact .s rfl | exact .y rfl | refine Fit.al ?_ | refine Fit.fl ?_ ?_ | refine And.intro ?_ ?_))⟩, trivial⟩
    · have hk : k ≤ l.length := hk
      (conv => arg 1; whnf)
      refine br (fun h1 => ?_) (fun h1 => ?_)
      · have hlt : k < l.length := by have := of_decide_eq_true h1; omega
        have e1 : (decide (0 ≤ (k : Int)) && decide ((k : Int) < (l.length : Int))) = true := by simp only [Bool.and_eq_true, decide_eq_true_eq]; omega
        have ek : (k : Int).toNat = k := by omega
        have hb := oldK_bd l car age k
        (conv => arg 1; whnf); (repeat' (first | (refine brt (by assumption) ?_; (conv => arg 1; whnf)) | (refine brf (by assumption) ?_; (conv => arg 1; whnf)) | fail))
        refine joinIn (fun _ : Unit => True) (fun _ => frm 40 [(1, .f (.func 6) [] [.p 0 0]), (2, i64 age), (6, .p 1 0), (7, boo (!(decide (oldK l car age (k + 1) < 0)))), (10, row eC l), (11, i64 l.length), (12, i64 k)]) (fun _ => [.lit [i64 car], .lit (oldF l car age (k + 1)).cs]) ?_ (fun _ _ => ?_)
        · (conv => arg 1; whnf); (repeat' (first | (refine brt (by assumption) ?_; (conv => arg 1; whnf)) | (refine brf (by assumption) ?_; (conv => arg 1; whnf)) | fail))
          cases h2 : decide (age ≤ (l.getD (k : Int).toNat eC.dflt).ag) with
          | false =>
            (conv => arg 1; whnf); (repeat' (first | (refine brt (by assumption) ?_; (conv => arg 1; whnf)) | (refine brf (by assumption) ?_; (conv => arg 1; whnf)) | fail))
            have e : oldK l car age (k + 1) = (oldK l car age k) := by
              show cond (oldB l car age (oldK l car age k) k) (k : Int) (oldK l car age k) = _
              unfold oldB
              rw [ek] at *
              simp only [h2, Bool.true_and, Bool.false_and, Bool.and_true, Bool.and_false, Bool.true_or, Bool.false_or, Bool.or_true, Bool.or_false, cond]
            have e3 : oldF l car age (k + 1) = oldF l car age k := by unfold oldF; rw [e]
            refine joinTo () [0, 1] trivial (by decide) ?_ ?_ rfl
            · repeat' (first | exact True.intro | exact Fit.dead _ | exact Fit.v _ | exact .p rfl | exact row_self eC _ | exact Fit.v' (congrArg Value.bool (show (!(decide (oldK l car age (k + 1) < 0))) = !(decide (oldK l car age k < 0)) by rw [e])) | exact Fit.v' (congrArg Value.bool (show (!(decide (oldK l car age (k + 1) < 0))) = !false by rw [e, h5])) | refine Fit.fl ?_ ?_ | refine And.intro ?_ ?_)
            · refine ⟨⟨_, rfl, .lit (by repeat' (first | exact True.intro | exact Fit.dead _ | exact Fit.v _ | exact .i fun _ _ => rfl | exact Fit.ip | exact .p rfl | exact .q rfl | exact .s rfl | exact .y rfl | refine Fit.al ?_ | refine Fit.fl ?_ ?_ | refine And.intro ?_ ?_))⟩, ⟨_, rfl, .lit ?_⟩, trivial⟩
              rw [e3]
              repeat' (first | exact True.intro | exact Fit.dead _ | exact Fit.v _ | exact .i fun _ _ => rfl | exact Fit.ip | exact .p rfl | exact .q rfl | exact .s rfl | exact .y rfl | refine Fit.al ?_ | refine Fit.fl ?_ ?_ | refine And.intro ?_ ?_)
          | true =>
            cases h3 : decide ((l.getD (k : Int).toNat eC.dflt).ca < 0) with
            | true =>
              cases h5 : decide ((oldK l car age k) < 0) with
              | true =>
                have n1 : (!(!(decide ((oldK l car age k) < 0)))) = true := by rw [h5]; rfl
                (conv => arg 1; whnf); (repeat' (first | (refine brt (by assumption) ?_; (conv => arg 1; whnf)) | (refine brf (by assumption) ?_; (conv => arg 1; whnf)) | fail))
                have e : oldK l car age (k + 1) = (k : Int) := by
                  show cond (oldB l car age (oldK l car age k) k) (k : Int) (oldK l car age k) = _
                  unfold oldB
                  rw [ek] at *
                  simp only [h2, h3, h5, Bool.true_and, Bool.false_and, Bool.and_true, Bool.and_false, Bool.true_or, Bool.false_or, Bool.or_true, Bool.or_false, cond]
                have e2 : decide (oldK l car age (k + 1) < 0) = false := by rw [e]; exact decide_eq_false (by omega)
                have e3 : oldF l car age (k + 1) = (l.getD (k : Int).toNat eC.dflt) := by unfold oldF; rw [e2, e]; rfl
                refine joinTo () [0, 1] trivial (by decide) ?_ ?_ rfl
                · repeat' (first | exact True.intro | exact Fit.dead _ | exact Fit.v _ | exact .p rfl | exact row_self eC _ | exact Fit.v' (congrArg Value.bool (show (!(decide (oldK l car age (k + 1) < 0))) = true by rw [e2]; rfl)) | refine Fit.fl ?_ ?_ | refine And.intro ?_ ?_)
                · refine ⟨⟨_, rfl, .lit (by repeat' (first | exact True.intro | exact Fit.dead _ | exact Fit.v _ | exact .i fun _ _ => rfl | exact Fit.ip | exact .p rfl | exact .q rfl | exact .s rfl | exact .y rfl | refine Fit.al ?_ | refine Fit.fl ?_ ?_ | refine And.intro ?_ ?_))⟩, ⟨_, rfl, .lit ?_⟩, trivial⟩
                  rw [e3]
                  repeat' (first | exact True.intro | exact Fit.dead _ | exact Fit.v _ | exact .i fun _ _ => rfl | exact Fit.ip | exact .p rfl | exact .q rfl | exact .s rfl | exact .y rfl | refine Fit.al ?_ | refine Fit.fl ?_ ?_ | refine And.intro ?_ ?_)
              | false =>
                have n1 : (!(!(decide ((oldK l car age k) < 0)))) = false := by rw [h5]; rfl
                have e9 : oldF l car age k = l.getD (oldK l car age k).toNat eC.dflt := by unfold oldF; rw [h5]; rfl
                cases h6 : decide ((oldF l car age k).ag < (l.getD (k : Int).toNat eC.dflt).ag) with
                | true =>
                  have h7 : decide ((l.getD (oldK l car age k).toNat eC.dflt).ag < (l.getD (k : Int).toNat eC.dflt).ag) = true := by rw [← e9]; exact h6
                  (conv => arg 1; whnf); (repeat' (first | (refine brt (by assumption) ?_; (conv => arg 1; whnf)) | (refine brf (by assumption) ?_; (conv => arg 1; whnf)) | fail))
                  have e : oldK l car age (k + 1) = (k : Int) := by
                    show cond (oldB l car age (oldK l car age k) k) (k : Int) (oldK l car age k) = _
                    unfold oldB
                    rw [ek] at *
                    simp only [h2, h3, h5, h7, Bool.true_and, Bool.false_and, Bool.and_true, Bool.and_false, Bool.true_or, Bool.false_or, Bool.or_true, Bool.or_false, cond]
                  have e2 : decide (oldK l car age (k + 1) < 0) = false := by rw [e]; exact decide_eq_false (by omega)
                  have e3 : oldF l car age (k + 1) = (l.getD (k : Int).toNat eC.dflt) := by unfold oldF; rw [e2, e]; rfl
                  refine joinTo () [0, 1] trivial (by decide) ?_ ?_ rfl
                  · repeat' (first | exact True.intro | exact Fit.dead _ | exact Fit.v _ | exact .p rfl | exact row_self eC _ | exact Fit.v' (congrArg Value.bool (show (!(decide (oldK l car age (k + 1) < 0))) = true by rw [e2]; rfl)) | refine Fit.fl ?_ ?_ | refine And.intro ?_ ?_)
                  · refine ⟨⟨_, rfl, .lit (by repeat' (first | exact True.intro | exact Fit.dead _ | exact Fit.v _ | exact .i fun _ _ => rfl | exact Fit.ip | exact .p rfl | exact .q rfl | exact .s rfl | exact .y rfl | refine Fit.al ?_ | refine Fit.fl ?_ ?_ | refine And.intro ?_ ?_))⟩, ⟨_, rfl, .lit ?_⟩, trivial⟩
                    rw [e3]
                    repeat' (first | exact True.intro | exact Fit.dead _ | exact Fit.v _ | exact .i fun _ _ => rfl | exact Fit.ip | exact .p rfl | exact .q rfl | exact .s rfl | exact .y rfl | refine Fit.al ?_ | refine Fit.fl ?_ ?_ | refine And.intro ?_ ?_)
                | false =>
                  have h7 : decide ((l.getD (oldK l car age k).toNat eC.dflt).ag < (l.getD (k : Int).toNat eC.dflt).ag) = false := by rw [← e9]; exact h6
                  (conv => arg 1; whnf); (repeat' (first | (refine brt (by assumption) ?_; (conv => arg 1; whnf)) | (refine brf (by assumption) ?_; (conv => arg 1; whnf)) | fail))
                  have e : oldK l car age (k + 1) = (oldK l car age k) := by
                    show cond (oldB l car age (oldK l car age k) k) (k : Int) (oldK l car age k) = _
                    unfold oldB
                    rw [ek] at *
                    simp only [h2, h3, h5, h7, Bool.true_and, Bool.false_and, Bool.and_true, Bool.and_false, Bool.true_or, Bool.false_or, Bool.or_true, Bool.or_false, cond]
                  have e3 : oldF l car age (k + 1) = oldF l car age k := by unfold oldF; rw [e]
                  refine joinTo () [0, 1] trivial (by decide) ?_ ?_ rfl
                  · repeat' (first | exact True.intro | exact Fit.dead _ | exact Fit.v _ | exact .p rfl | exact row_self eC _ | exact Fit.v' (congrArg Value.bool (show (!(decide (oldK l car age (k + 1) < 0))) = !(decide (oldK l car age k < 0)) by rw [e])) | exact Fit.v' (congrArg Value.bool (show (!(decide (oldK l car age (k + 1) < 0))) = !false by rw [e, h5])) | refine Fit.fl ?_ ?_ | refine And.intro ?_ ?_)
                  · refine ⟨⟨_, rfl, .lit (by repeat' (first | exact True.intro | exact Fit.dead _ | exact Fit.v _ | exact .i fun _ _ => rfl | exact Fit.ip | exact .p rfl | exact .q rfl | exact .s rfl | exact .y rfl | refine Fit.al ?_ | refine Fit.fl ?_ ?_ | refine And.intro ?_ ?_))⟩, ⟨_, rfl, .lit ?_⟩, trivial⟩
                    rw [e3]
                    repeat' (first | exact True.intro | exact Fit.dead _ | exact Fit.v _ | exact .i fun _ _ => rfl | exact Fit.ip | exact .p rfl | exact .q rfl | exact .s rfl | exact .y rfl | refine Fit.al ?_ | refine Fit.fl ?_ ?_ | refine And.intro ?_ ?_)
            | false =>
              cases h4 : decide ((l.getD (k : Int).toNat eC.dflt).ca = car) with
              | false =>
                (conv => arg 1; whnf); (repeat' (first | (refine brt (by assumption) ?_; (conv => arg 1; whnf)) | (refine brf (by assumption) ?_; (conv => arg 1; whnf)) | fail))
                have e : oldK l car age (k + 1) = (oldK l car age k) := by
                  show cond (oldB l car age (oldK l car age k) k) (k : Int) (oldK l car age k) = _
                  unfold oldB
                  rw [ek] at *
                  simp only [h2, h3, h4, Bool.true_and, Bool.false_and, Bool.and_true, Bool.and_false, Bool.true_or, Bool.false_or, Bool.or_true, Bool.or_false, cond]
                have e3 : oldF l car age (k + 1) = oldF l car age k := by unfold oldF; rw [e]
                refine joinTo () [0, 1] trivial (by decide) ?_ ?_ rfl
                · repeat' (first | exact True.intro | exact Fit.dead _ | exact Fit.v _ | exact .p rfl | exact row_self eC _ | exact Fit.v' (congrArg Value.bool (show (!(decide (oldK l car age (k + 1) < 0))) = !(decide (oldK l car age k < 0)) by rw [e])) | exact Fit.v' (congrArg Value.bool (show (!(decide (oldK l car age (k + 1) < 0))) = !false by rw [e, h5])) | refine Fit.fl ?_ ?_ | refine And.intro ?_ ?_)
                · refine ⟨⟨_, rfl, .lit (by repeat' (first | exact True.intro | exact Fit.dead _ | exact Fit.v _ | exact .i fun _ _ => rfl | exact Fit.ip | exact .p rfl | exact .q rfl | exact .s rfl | exact .y rfl | refine Fit.al ?_ | refine Fit.fl ?_ ?_ | refine And.intro ?_ ?_))⟩, ⟨_, rfl, .lit ?_⟩, trivial⟩
                  rw [e3]
                  repeat' (first | exact True.intro | exact Fit.dead _ | exact Fit.v _ | exact .i fun _ _ => rfl | exact Fit.ip | exact .p rfl | exact .q rfl | exact .s rfl | exact .y rfl | refine Fit.al ?_ | refine Fit.fl ?_ ?_ | refine And.intro ?_ ?_)
              | true =>
                cases h5 : decide ((oldK l car age k) < 0) with
                | true =>
                  have n1 : (!(!(decide ((oldK l car age k) < 0)))) = true := by rw [h5]; rfl
                  (conv => arg 1; whnf); (repeat' (first | (refine brt (by assumption) ?_; (conv => arg 1; whnf)) | (refine brf (by assumption) ?_; (conv => arg 1; whnf)) | fail))
                  have e : oldK l car age (k + 1) = (k : Int) := by
                    show cond (oldB l car age (oldK l car age k) k) (k : Int) (oldK l car age k) = _
                    unfold oldB
                    rw [ek] at *
                    simp only [h2, h3, h4, h5, Bool.true_and, Bool.false_and, Bool.and_true, Bool.and_false, Bool.true_or, Bool.false_or, Bool.or_true, Bool.or_false, cond]
                  have e2 : decide (oldK l car age (k + 1) < 0) = false := by rw [e]; exact decide_eq_false (by omega)
                  have e3 : oldF l car age (k + 1) = (l.getD (k : Int).toNat eC.dflt) := by unfold oldF; rw [e2, e]; rfl
                  refine joinTo () [0, 1] trivial (by decide) ?_ ?_ rfl
                  · repeat' (first | exact True.intro | exact Fit.dead _ | exact Fit.v _ | exact .p rfl | exact row_self eC _ | exact Fit.v' (congrArg Value.bool (show (!(decide (oldK l car age (k + 1) < 0))) = true by rw [e2]; rfl)) | refine Fit.fl ?_ ?_ | refine And.intro ?_ ?_)
                  · refine ⟨⟨_, rfl, .lit (by repeat' (first | exact True.intro | exact Fit.dead _ | exact Fit.v _ | exact .i fun _ _ => rfl | exact Fit.ip | exact .p rfl | exact .q rfl | exact .s rfl | exact .y rfl | refine Fit.al ?_ | refine Fit.fl ?_ ?_ | refine And.intro ?_ ?_))⟩, ⟨_, rfl, .lit ?_⟩, trivial⟩
                    rw [e3]
                    repeat' (first | exact True.intro | exact Fit.dead _ | exact Fit.v _ | exact .i fun _ _ => rfl | exact Fit.ip | exact .p rfl | exact .q rfl | exact .s rfl | exact .y rfl | refine Fit.al ?_ | refine Fit.fl ?_ ?_ | refine And.intro ?_ ?_)
                | false =>
                  have n1 : (!(!(decide ((oldK l car age k) < 0)))) = false := by rw [h5]; rfl
                  have e9 : oldF l car age k = l.getD (oldK l car age k).toNat eC.dflt := by unfold oldF; rw [h5]; rfl
                  cases h6 : decide ((oldF l car age k).ag < (l.getD (k : Int).toNat eC.dflt).ag) with
                  | true =>
                    have h7 : decide ((l.getD (oldK l car age k).toNat eC.dflt).ag < (l.getD (k : Int).toNat eC.dflt).ag) = true := by rw [← e9]; exact h6
                    (conv => arg 1; whnf); (repeat' (first | (refine brt (by assumption) ?_; (conv => arg 1; whnf)) | (refine brf (by assumption) ?_; (conv => arg 1; whnf)) | fail))
                    have e : oldK l car age (k + 1) = (k : Int) := by
                      show cond (oldB l car age (oldK l car age k) k) (k : Int) (oldK l car age k) = _
                      unfold oldB
                      rw [ek] at *
                      simp only [h2, h3, h4, h5, h7, Bool.true_and, Bool.false_and, Bool.and_true, Bool.and_false, Bool.true_or, Bool.false_or, Bool.or_true, Bool.or_false, cond]
                    have e2 : decide (oldK l car age (k + 1) < 0) = false := by rw [e]; exact decide_eq_false (by omega)
                    have e3 : oldF l car age (k + 1) = (l.getD (k : Int).toNat eC.dflt) := by unfold oldF; rw [e2, e]; rfl
                    refine joinTo () [0, 1] trivial (by decide) ?_ ?_ rfl
                    · repeat' (first | exact True.intro | exact Fit.dead _ | exact Fit.v _ | exact .p rfl | exact row_self eC _ | exact Fit.v' (congrArg Value.bool (show (!(decide (oldK l car age (k + 1) < 0))) = true by rw [e2]; rfl)) | refine Fit.fl ?_ ?_ | refine And.intro ?_ ?_)
                    · refine ⟨⟨_, rfl, .lit (by repeat' (first | exact True.intro | exact Fit.dead _ | exact Fit.v _ | exact .i fun _ _ => rfl | exact Fit.ip | exact .p rfl | exact .q rfl | exact .s rfl | exact .y rfl | refine Fit.al ?_ | refine Fit.fl ?_ ?_ | refine And.intro ?_ ?_))⟩, ⟨_, rfl, .lit ?_⟩, trivial⟩
                      rw [e3]
                      repeat' (first | exact True.intro | exact Fit.dead _ | exact Fit.v _ | exact .i fun _ _ => rfl | exact Fit.ip | exact .p rfl | exact .q rfl | exact .s rfl | exact .y rfl | refine Fit.al ?_ | refine Fit.fl ?_ ?_ | refine And.intro ?_ ?_)
                  | false =>
                    have h7 : decide ((l.getD (oldK l car age k).toNat eC.dflt).ag < (l.getD (k : Int).toNat eC.dflt).ag) = false := by rw [← e9]; exact h6
                    (conv => arg 1; whnf); (repeat' (first | (refine brt (by assumption) ?_; (conv => arg 1; whnf)) | (refine brf (by assumption) ?_; (conv => arg 1; whnf)) | fail))
                    have e : oldK l car age (k + 1) = (oldK l car age k) := by
                      show cond (oldB l car age (oldK l car age k) k) (k : Int) (oldK l car age k) = _
                      unfold oldB
                      rw [ek] at *
                      simp only [h2, h3, h4, h5, h7, Bool.true_and, Bool.false_and, Bool.and_true, Bool.and_false, Bool.true_or, Bool.false_or, Bool.or_true, Bool.or_false, cond]
                    have e3 : oldF l car age (k + 1) = oldF l car age k := by unfold oldF; rw [e]
                    refine joinTo () [0, 1] trivial (by decide) ?_ ?_ rfl
                    · repeat' (first | exact True.intro | exact Fit.dead _ | exact Fit.v _ | exact .p rfl | exact row_self eC _ | exact Fit.v' (congrArg Value.bool (show (!(decide (oldK l car age (k + 1) < 0))) = !(decide (oldK l car age k < 0)) by rw [e])) | exact Fit.v' (congrArg Value.bool (show (!(decide (oldK l car age (k + 1) < 0))) = !false by rw [e, h5])) | refine Fit.fl ?_ ?_ | refine And.intro ?_ ?_)
                    · refine ⟨⟨_, rfl, .lit (by repeat' (first | exact True.intro | exact Fit.dead _ | exact Fit.v _ | exact .i fun _ _ => rfl | exact Fit.ip | exact .p rfl | exact .q rfl | exact .s rfl | exact .y rfl | refine Fit.al ?_ | refine Fit.fl ?_ ?_ | refine And.intro ?_ ?_))⟩, ⟨_, rfl, .lit ?_⟩, trivial⟩
                      rw [e3]
                      repeat' (first | exact True.intro | exact Fit.dead _ | exact Fit.v _ | exact .i fun _ _ => rfl | exact Fit.ip | exact .p rfl | exact .q rfl | exact .s rfl | exact .y rfl | refine Fit.al ?_ | refine Fit.fl ?_ ?_ | refine And.intro ?_ ?_)
        · (conv => arg 1; whnf); (repeat' (first | (refine brt (by assumption) ?_; (conv => arg 1; whnf)) | (refine brf (by assumption) ?_; (conv => arg 1; whnf)) | fail))
          refine again (k + 1) [0, 1] hlt (by show l.length - (k + 1) < l.length - k; omega) (by decide) ?_ ?_ rfl
          · repeat' (first | exact True.intro | exact Fit.dead _ | exact Fit.v _ | exact .p rfl | exact row_self eC _ | exact Fit.v' (congrArg (Value.int .i64) (nxt k (by omega)).symm) | refine Fit.fl ?_ ?_ | refine And.intro ?_ ?_)
          · exact ⟨⟨_, rfl, .lit (by repeat' (first | exact True.intro | exact Fit.dead _ | exact Fit.v _ | exact .i fun _ _ => rfl | exact Fit.ip | exact .p rfl | exact .q rfl | exact .s rfl | exact .y rfl | refine Fit.al ?_ | refine Fit.fl ?_ ?_ | refine And.intro ?_ ?_))⟩, ⟨_, rfl, .lit (by repeat' (first | exact True.intro | exact Fit.dead _ | exact Fit.v _ | exact .i fun _ _ => rfl | exact Fit.ip | exact .p rfl | exact .q rfl | exact .s rfl | exact .y rfl | refine Fit.al ?_ | refine Fit.fl ?_ ?_ | refine And.intro ?_ ?_))⟩, trivial⟩
      · have hkl : k = l.length := by have := of_decide_eq_false h1; omega
        subst hkl
        (conv => arg 1; whnf); (repeat' (first | (refine brt (by assumption) ?_; (conv => arg 1; whnf)) | (refine brf (by assumption) ?_; (conv => arg 1; whnf)) | fail))
        refine leave ?_
        show tr _
        (conv => arg 1; whnf); (repeat' (first | (refine brt (by assumption) ?_; (conv => arg 1; whnf)) | (refine brf (by assumption) ?_; (conv => arg 1; whnf)) | fail))
        have F : decide ((rows eC l.length fun k => eC.enc (l.getD k eC.dflt)).length ≤ 1000000) = true := by rw [rows_row]; exact decide_eq_true (by omega)
        (refine brt ?_ ?_; (focus (exact and2 rfl (and2 (and2 (and2 F rfl) rfl) (isRow_row eC (by omega))); done)); (conv => arg 1; whnf))
        have hb := oldK_bd l car age l.length
        rw [rows_row]
        refine br (fun h2 => ?_) (fun h2 => ?_)
        · have eF : oldF l car age l.length = eC.dflt := by unfold oldF; rw [h2]; rfl
          have n1 : (!(!(decide (oldK l car age l.length < 0)))) = true := by rw [h2]; rfl
          rw [eF]
          (conv => arg 1; whnf); (repeat' (first | (refine brt (by assumption) ?_; (conv => arg 1; whnf)) | (refine brf (by assumption) ?_; (conv => arg 1; whnf)) | fail))
          exact finB (by with_unfolding_all rfl)
        · have eF : oldF l car age l.length = l.getD (oldK l car age l.length).toNat eC.dflt := by unfold oldF; rw [h2]; rfl
          have n1 : (!(decide (oldK l car age l.length < 0))) = true := by rw [h2]; rfl
          have hp : (decide (0 ≤ oldK l car age l.length) && decide (oldK l car age l.length < (l.length : Int))) = true := by have := of_decide_eq_false h2; simp only [Bool.and_eq_true, decide_eq_true_eq]; omega
          rw [eF]
          (conv => arg 1; whnf); (repeat' (first | (refine brt (by assumption) ?_; (conv => arg 1; whnf)) | (refine brf (by assumption) ?_; (conv => arg 1; whnf)) | fail))
          exact finB (by simp)
end Go.Proofs.Ytejpheapjklpgaa.E
