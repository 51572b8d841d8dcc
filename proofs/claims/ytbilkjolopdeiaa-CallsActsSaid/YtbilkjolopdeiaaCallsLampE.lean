/- The lamps, and rows of calls that are one. -/
import Derived.Test.YtbilkjolopdeiaaCallsRefBE
import Derived.Test.YtbilkjolopdeiaaCallsKeepE
namespace Go.Proofs.Ytbilkjolopdeiaa.E
open Go NumMath
set_option linter.unusedSimpArgs false
set_option linter.unusedVariables false
set_option maxRecDepth 100000
set_option maxHeartbeats 4000000
/-! ### Rows that are one -/
theorem ext_getC {a b : List Call} (h : a.length = b.length) (hg : ∀ i, i < a.length → a.getD i eC.dflt = b.getD i eC.dflt) : a = b := by
  apply List.ext_getElem h
  intro i h1 h2
  have := hg i h1
  rw [List.getD_eq_getElem?_getD, List.getD_eq_getElem?_getD, List.getElem?_eq_getElem h1, List.getElem?_eq_getElem h2] at this
  exact this
def sameC (a b : List Call) : Bool := decide (a.length = b.length) && (List.range a.length).all fun i => callEq (a.getD i eC.dflt) (b.getD i eC.dflt)
theorem sameC_iff (a b : List Call) : sameC a b = true ↔ a = b := by
  unfold sameC
  simp only [Bool.and_eq_true, decide_eq_true_eq, List.all_eq_true, List.mem_range, callEq_iff]
  exact ⟨fun h => ext_getC h.1 h.2, fun h => by subst h; exact ⟨rfl, fun _ _ => rfl⟩⟩
def sameCG : List AV → Option (Bool × AV) := ad2 (adR eC) (adR eC) fun a b => giv (decide (a.length ≤ 1000000)) (boo (sameC a b))
theorem sameC_ok : CtrOk Try.prog 33 (borCtr sameCG) :=
  borCtr_can X0_ok Try.func33 (by decide) rfl fun args u h => by
    obtain ⟨a, b, hf, ha, hb, hv⟩ := ad2_some h
    obtain ⟨hal, rfl⟩ := giv_some hv
    have hal := of_decide_eq_true hal
    refine ⟨_, hf, ?_⟩
    clear h hv hf
    have fin : ∀ {x : Bool} {τ : St}, (x = true ↔ a = b) → tr (Fin 0 (boo (sameC a b)) [] (boo x) τ) := fun {x τ} hx => by
      refine finB ?_
      rw [Bool.eq_iff_iff, sameC_iff]
      exact hx.symm
    unfold runF
    (conv => arg 1; whnf)
    refine br (fun h => ?_) (fun h => ?_)
    · (conv => arg 1; whnf)
      refine fin ⟨fun h => (by cases h), fun e => ?_⟩
      rw [e] at h
      simp at h
    · have hl : a.length = b.length := by
        have h' : (!decide ((a.length : Int) = (b.length : Int))) = false := h
        simp at h'
        omega
      (conv => arg 1; whnf)
      refine loopIn (fun k : Nat => k ≤ a.length ∧ ∀ j, j < k → a.getD j eC.dflt = b.getD j eC.dflt) (fun k => frm 26 [(0, row eC a), (1, row eC b), (5, i64 k)]) (fun _ => []) (fun k => a.length - k) 0 [] ⟨Nat.zero_le _, fun j hj => absurd hj (Nat.not_lt_zero j)⟩ List.nodup_nil ?_ True.intro rfl fun k hi => ?_
      · repeat' (first | exact True.intro | exact Fit.dead _ | exact Fit.v _ | exact row_self eC _ | refine And.intro ?_ ?_)
      · obtain ⟨hk, hall⟩ := hi
        (conv => arg 1; whnf)
        refine br (fun h1 => ?_) (fun h1 => ?_)
        · have hlt : k < a.length := by have := of_decide_eq_true h1; omega
          have e1 : (decide (0 ≤ (k : Int)) && decide ((k : Int) < (a.length : Int))) = true := by simp only [Bool.and_eq_true, decide_eq_true_eq]; omega
          have e2 : (decide (0 ≤ (k : Int)) && decide ((k : Int) < (b.length : Int))) = true := by simp only [Bool.and_eq_true, decide_eq_true_eq]; omega
          have ek : (k : Int).toNat = k := by omega
          (conv => arg 1; whnf); (repeat' (first | (refine brt (by assumption) ?_; (conv => arg 1; whnf)) | (refine brf (by assumption) ?_; (conv => arg 1; whnf)) | fail))
          refine br (fun h2 => ?_) (fun h2 => ?_)
          · have h2 : (!(callEq (a.getD (k : Int).toNat eC.dflt) (b.getD (k : Int).toNat eC.dflt))) = true := h2
            (conv => arg 1; whnf); (repeat' (first | (refine brt (by assumption) ?_; (conv => arg 1; whnf)) | (refine brf (by assumption) ?_; (conv => arg 1; whnf)) | fail))
            refine leaveRet ?_
            show tr _
            (conv => arg 1; whnf); (repeat' (first | (refine brt (by assumption) ?_; (conv => arg 1; whnf)) | (refine brf (by assumption) ?_; (conv => arg 1; whnf)) | fail))
            refine fin ⟨fun h => (by cases h), fun e => ?_⟩
            rw [e, (callEq_iff _ _).2 rfl] at h2
            cases h2
          · have h2 : (!(callEq (a.getD (k : Int).toNat eC.dflt) (b.getD (k : Int).toNat eC.dflt))) = false := h2
            (conv => arg 1; whnf); (repeat' (first | (refine brt (by assumption) ?_; (conv => arg 1; whnf)) | (refine brf (by assumption) ?_; (conv => arg 1; whnf)) | fail))
            rw [ek] at h2
            refine again (k + 1) [] ⟨hlt, fun j hj => ?_⟩ (by show a.length - (k + 1) < a.length - k; omega) List.nodup_nil ?_ True.intro rfl
            · rcases Nat.lt_or_ge j k with hj' | hj'
              · exact hall j hj'
              · have : j = k := by omega
                rw [this]; exact (callEq_iff _ _).1 (by simpa using h2)
            · repeat' (first | exact True.intro | exact Fit.dead _ | exact Fit.v _ | exact row_self eC _ | exact Fit.v' (congrArg (Value.int .i64) (nxt k (by omega)).symm) | refine And.intro ?_ ?_)
        · have hkl : k = a.length := by have := of_decide_eq_false h1; omega
          (conv => arg 1; whnf); (repeat' (first | (refine brt (by assumption) ?_; (conv => arg 1; whnf)) | (refine brf (by assumption) ?_; (conv => arg 1; whnf)) | fail))
          refine leave ?_
          show tr _
          (conv => arg 1; whnf); (repeat' (first | (refine brt (by assumption) ?_; (conv => arg 1; whnf)) | (refine brf (by assumption) ?_; (conv => arg 1; whnf)) | fail))
          refine fin ⟨fun _ => ext_getC hl fun i hi => hall i (by omega), fun _ => rfl⟩
/-! ### The lamps -/
structure Lamp where
  (u d n : Int)
def lampS (car : Int) (a : Lamp) (c : Call) : Lamp := cond (decide (c.ca = -1) && c.up) ⟨withF a.u c.fl, a.d, a.n⟩ (cond (decide (c.ca = -1)) ⟨a.u, withF a.d c.fl, a.n⟩ (cond (decide (c.ca = car)) ⟨a.u, a.d, withF a.n c.fl⟩ a))
def lamps (car : Int) (l : List Call) : Lamp := l.foldl (lampS car) ⟨0, 0, 0⟩
theorem fold_take {β : Type} {f : β → Call → β} {z : β} (l : List Call) (k : Nat) (h : k < l.length) : (l.take (k + 1)).foldl f z = f ((l.take k).foldl f z) (l.getD k eC.dflt) := by
  rw [List.take_succ_eq_append_getElem h, List.foldl_append]
  simp [List.getD_eq_getElem?_getD, h]
def lampsG : List AV → St → Option (Bool × AV × St)
  | [.p 0 0, .v (.int .i64 car)], σ => onBook (fun s l b => some (true, .t [u64 (lamps car l).u, u64 (lamps car l).d, u64 (lamps car l).n], fun C B => [.lit C, B])) σ
  | _, _ => none
noncomputable def XLA : Cx := X0.add 55 .pure (pureCtr withG)
theorem XLA_ok : CxOk Try.prog XLA := X0_ok.pure with_ok
theorem lamps_ok : CtrOk Try.prog 35 (localCtr lampsG) :=
  localCtr_can XLA_ok Try.func35 (by decide) rfl fun args σ u σ' h => by
    unfold lampsG at h
    split at h
    case h_2 => cases h
    rename_i car
    obtain ⟨s, l, b, g, τ, rfl, hr, hl, hF, rfl⟩ := onBook_some h
    simp only [Option.some.injEq, Prod.mk.injEq, true_and] at hF
    obtain ⟨rfl, rfl⟩ := hF
    clear h
    refine ⟨_, sameBook hr, ?_⟩
    unfold runF
    (conv => arg 1; whnf)
    refine loopIn (fun k : Nat => k ≤ l.length) (fun k => frm 51 [(1, i64 car), (4, u64 ((l.take k).foldl (lampS car) ⟨0, 0, 0⟩).u), (5, u64 ((l.take k).foldl (lampS car) ⟨0, 0, 0⟩).d), (6, u64 ((l.take k).foldl (lampS car) ⟨0, 0, 0⟩).n), (12, .s 1 4 0 l.length), (13, i64 l.length), (14, i64 k)]) (fun k => [.lit (bookC s 1 l.length b), tabl eC l]) (fun k => l.length - k) 0 [0, 1] (Nat.zero_le _) (by decide) ?_ ?_ rfl fun k hk => ?_
    · repeat' (first | exact True.intro | exact Fit.dead _ | exact Fit.v _ | exact .s rfl | refine And.intro ?_ ?_)
    · exact ⟨⟨_, rfl, .lit (by repeat' (first | exact True.intro | exact Fit.dead _ | exact Fit.v _ | exact .i fun _ _ => rfl | exact Fit.ip | exact .p rfl | exact .q rfl | exact .s rfl | exact .y rfl | refine Fit.al ?_ | refine Fit.fl ?_ ?_ | refine And.intro ?_ ?_))⟩, ⟨_, rfl, .tab fun _ _ => rfl⟩, trivial⟩
    · have hk : k ≤ l.length := hk
      (conv => arg 1; whnf)
      refine br (fun h => ?_) (fun h => ?_)
      · have hlt : k < l.length := by have := of_decide_eq_true h; omega
        have e1 : decide (0 + (k : Int).toNat < l.length) = true := decide_eq_true (by omega)
        have e2 : (decide (0 ≤ (k : Int)) && decide ((k : Int) < (l.length : Int))) = true := by simp only [Bool.and_eq_true, decide_eq_true_eq]; omega
        have ek : 0 + (k : Int).toNat = k := by omega
        have hf := fold_take (f := lampS car) (z := ⟨0, 0, 0⟩) l k hlt
        obtain ⟨A, hA⟩ : ∃ A, A = (l.take k).foldl (lampS car) ⟨0, 0, 0⟩ := ⟨_, rfl⟩
        rw [← hA] at hf
        have nx : ∀ (a : Lamp) (τ : St) {K : Ex → List AV → St → Prop}, a = lampS car A (l.getD k eC.dflt) → ∀ (f : List AV), FitL [0, 1] (.lit (bookC s 1 l.length b) :: tabl eC l :: τ) (frm 51 [(1, i64 car), (4, u64 a.u), (5, u64 a.d), (6, u64 a.n), (12, .s 1 4 0 l.length), (13, i64 l.length), (14, i64 ((k + 1 : Nat) : Int))]) f → tr (some (After 2 (fun k : Nat => k ≤ l.length) (fun k => frm 51 [(1, i64 car), (4, u64 ((l.take k).foldl (lampS car) ⟨0, 0, 0⟩).u), (5, u64 ((l.take k).foldl (lampS car) ⟨0, 0, 0⟩).d), (6, u64 ((l.take k).foldl (lampS car) ⟨0, 0, 0⟩).n), (12, .s 1 4 0 l.length), (13, i64 l.length), (14, i64 k)]) (fun k => [.lit (bookC s 1 l.length b), tabl eC l]) (fun k => l.length - k) k K .normal f (.lit (bookC s 1 l.length b) :: tabl eC l :: τ))) := fun a τ K ha f hf' => by
          refine again (k + 1) [0, 1] hlt (by show l.length - (k + 1) < l.length - k; omega) (by decide) ?_ ⟨⟨_, rfl, .lit (by repeat' (first | exact True.intro | exact Fit.dead _ | exact Fit.v _ | exact .i fun _ _ => rfl | exact Fit.ip | exact .p rfl | exact .q rfl | exact .s rfl | exact .y rfl | refine Fit.al ?_ | refine Fit.fl ?_ ?_ | refine And.intro ?_ ?_))⟩, ⟨_, rfl, .tab fun _ _ => rfl⟩, trivial⟩ rfl
          rw [hf, ← ha]
          exact hf'
        (conv => arg 1; whnf); (repeat' (first | (refine brt (by assumption) ?_; (conv => arg 1; whnf)) | (refine brf (by assumption) ?_; (conv => arg 1; whnf)) | fail))
        rw [← hA]
        cases h1 : decide ((l.getD (0 + (k : Int).toNat) eC.dflt).ca = -1) with
        | true =>
          cases h2 : (l.getD (0 + (k : Int).toNat) eC.dflt).up with
          | true =>
            (conv => arg 1; whnf); (repeat' (first | (refine brt (by assumption) ?_; (conv => arg 1; whnf)) | (refine brf (by assumption) ?_; (conv => arg 1; whnf)) | fail))
            have e : lampS car A (l.getD (0 + (k : Int).toNat) eC.dflt) = ⟨withF A.u (l.getD (0 + (k : Int).toNat) eC.dflt).fl, A.d, A.n⟩ := by unfold lampS; rw [h1, h2]; rfl
            refine nx _ _ (e.symm.trans (by rw [ek])) _ ?_
            repeat' (first | exact True.intro | exact Fit.dead _ | exact Fit.v _ | exact .s rfl | exact Fit.v' (congrArg (Value.int .i64) (nxt k (by omega)).symm) | refine And.intro ?_ ?_)
          | false =>
            (conv => arg 1; whnf); (repeat' (first | (refine brt (by assumption) ?_; (conv => arg 1; whnf)) | (refine brf (by assumption) ?_; (conv => arg 1; whnf)) | fail))
            have e : lampS car A (l.getD (0 + (k : Int).toNat) eC.dflt) = ⟨A.u, withF A.d (l.getD (0 + (k : Int).toNat) eC.dflt).fl, A.n⟩ := by unfold lampS; rw [h1, h2]; rfl
            refine nx _ _ (e.symm.trans (by rw [ek])) _ ?_
            repeat' (first | exact True.intro | exact Fit.dead _ | exact Fit.v _ | exact .s rfl | exact Fit.v' (congrArg (Value.int .i64) (nxt k (by omega)).symm) | refine And.intro ?_ ?_)
        | false =>
          (conv => arg 1; whnf); (repeat' (first | (refine brt (by assumption) ?_; (conv => arg 1; whnf)) | (refine brf (by assumption) ?_; (conv => arg 1; whnf)) | fail))
          refine br (fun h3 => ?_) (fun h3 => ?_)
          · have h3 : decide ((l.getD (0 + (k : Int).toNat) eC.dflt).ca = car) = true := h3
            (conv => arg 1; whnf); (repeat' (first | (refine brt (by assumption) ?_; (conv => arg 1; whnf)) | (refine brf (by assumption) ?_; (conv => arg 1; whnf)) | fail))
            have e : lampS car A (l.getD (0 + (k : Int).toNat) eC.dflt) = ⟨A.u, A.d, withF A.n (l.getD (0 + (k : Int).toNat) eC.dflt).fl⟩ := by unfold lampS; rw [h1, h3]; rfl
            refine nx _ _ (e.symm.trans (by rw [ek])) _ ?_
            repeat' (first | exact True.intro | exact Fit.dead _ | exact Fit.v _ | exact .s rfl | exact Fit.v' (congrArg (Value.int .i64) (nxt k (by omega)).symm) | refine And.intro ?_ ?_)
          · have h3 : decide ((l.getD (0 + (k : Int).toNat) eC.dflt).ca = car) = false := h3
            (conv => arg 1; whnf); (repeat' (first | (refine brt (by assumption) ?_; (conv => arg 1; whnf)) | (refine brf (by assumption) ?_; (conv => arg 1; whnf)) | fail))
            have e : lampS car A (l.getD (0 + (k : Int).toNat) eC.dflt) = A := by unfold lampS; rw [h1, h3]; rfl
            refine nx _ _ (e.symm.trans (by rw [ek])) _ ?_
            repeat' (first | exact True.intro | exact Fit.dead _ | exact Fit.v _ | exact .s rfl | exact Fit.v' (congrArg (Value.int .i64) (nxt k (by omega)).symm) | refine And.intro ?_ ?_)
      · (conv => arg 1; whnf); (repeat' (first | (refine brt (by assumption) ?_; (conv => arg 1; whnf)) | (refine brf (by assumption) ?_; (conv => arg 1; whnf)) | fail))
        refine leave ?_
        show tr _
        have hkl : k = l.length := by have := of_decide_eq_false h; omega
        subst hkl
        rw [List.take_length] at *
        (conv => arg 1; whnf); (repeat' (first | (refine brt (by assumption) ?_; (conv => arg 1; whnf)) | (refine brf (by assumption) ?_; (conv => arg 1; whnf)) | fail))
        exact finS [0, 1] (by decide) (.tl ⟨.v _, .v _, .v _, trivial⟩) ⟨⟨_, rfl, .lit (by repeat' (first | exact True.intro | exact Fit.dead _ | exact Fit.v _ | exact .i fun _ _ => rfl | exact Fit.ip | exact .p rfl | exact .q rfl | exact .s rfl | exact .y rfl | refine Fit.al ?_ | refine Fit.fl ?_ ?_ | refine And.intro ?_ ?_))⟩, ⟨_, rfl, .tab hr.get⟩, trivial⟩ rfl
end Go.Proofs.Ytbilkjolopdeiaa.E
