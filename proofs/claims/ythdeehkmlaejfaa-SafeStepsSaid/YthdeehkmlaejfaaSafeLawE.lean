/- The laws of safe.Tick: what they call. -/
import Derived.Test.YthdeehkmlaejfaaSafeTickE
namespace Go.Proofs.Ythdeehkmlaejfaa.E
open Go NumMath
set_option linter.unusedSimpArgs false
set_option linter.unusedVariables false
set_option maxRecDepth 100000
set_option maxHeartbeats 8000000
theorem getD_extI {a b : List Int} (h : a.length = b.length) (hg : ∀ j, j < a.length → a.getD j 0 = b.getD j 0) : a = b := by
  apply List.ext_getElem h
  intro i h1 h2
  have := hg i h1
  rw [List.getD_eq_getElem?_getD, List.getD_eq_getElem?_getD, List.getElem?_eq_getElem h1, List.getElem?_eq_getElem h2] at this
  exact this
def sameIG : List AV → Option (Bool × AV) := ad2 (adR eI) (adR eI) fun a b => giv (decide (a.length ≤ 1000000)) (boo (decide (a = b)))
theorem sameI_ok : CtrOk Try.prog 10 (borCtr sameIG) :=
  borCtr_can XF0_ok Try.func10 (by decide) rfl fun args u h => by
    obtain ⟨a, b, hf, ha, hb, hv⟩ := ad2_some h
    obtain ⟨hal, rfl⟩ := giv_some hv
    have hal := of_decide_eq_true hal
    refine ⟨_, hf, ?_⟩
    clear h hv hf
    unfold runF
    (conv => arg 1; whnf)
    refine br (fun h => ?_) (fun h => ?_)
    · (conv => arg 1; whnf)
      refine finB (decide_eq_false fun e => ?_)
      rw [e] at h
      simp at h
    · have hl : a.length = b.length := by
        have h' : (!decide ((a.length : Int) = (b.length : Int))) = false := h
        simp at h'
        omega
      (conv => arg 1; whnf)
      refine loopIn (fun k : Nat => k ≤ a.length ∧ ∀ j, j < k → a.getD j 0 = b.getD j 0) (fun k => frm 26 [(0, row eI a), (1, row eI b), (5, i64 k)]) (fun _ => []) (fun k => a.length - k) 0 [] ⟨Nat.zero_le _, fun j hj => absurd hj (Nat.not_lt_zero j)⟩ List.nodup_nil ?_ True.intro rfl fun k hi => ?_
      · repeat' (first | exact True.intro | exact Fit.dead _ | exact Fit.v _ | exact row_self eI _ | refine And.intro ?_ ?_)
      · obtain ⟨hk, hall⟩ := hi
        (conv => arg 1; whnf)
        refine br (fun h1 => ?_) (fun h1 => ?_)
        · have hlt : k < a.length := by have := of_decide_eq_true h1; omega
          have e1 : (decide (0 ≤ (k : Int)) && decide ((k : Int) < (a.length : Int))) = true := by simp only [Bool.and_eq_true, decide_eq_true_eq]; omega
          have e2 : (decide (0 ≤ (k : Int)) && decide ((k : Int) < (b.length : Int))) = true := by simp only [Bool.and_eq_true, decide_eq_true_eq]; omega
          have ek : (k : Int).toNat = k := by omega
          (conv => arg 1; whnf); (repeat' (first | (refine brt (by assumption) ?_; (conv => arg 1; whnf)) | (refine brf (by assumption) ?_; (conv => arg 1; whnf)) | fail))
          refine br (fun h2 => ?_) (fun h2 => ?_)
          · have h2 : (!(decide (a.getD (k : Int).toNat 0 = b.getD (k : Int).toNat 0))) = true := h2
            (conv => arg 1; whnf); (repeat' (first | (refine brt (by assumption) ?_; (conv => arg 1; whnf)) | (refine brf (by assumption) ?_; (conv => arg 1; whnf)) | fail))
            refine leaveRet ?_
            show tr _
            (conv => arg 1; whnf); (repeat' (first | (refine brt (by assumption) ?_; (conv => arg 1; whnf)) | (refine brf (by assumption) ?_; (conv => arg 1; whnf)) | fail))
            refine finB (decide_eq_false fun e => ?_)
            rw [e] at h2
            simp at h2
          · have h2 : (!(decide (a.getD (k : Int).toNat 0 = b.getD (k : Int).toNat 0))) = false := h2
            (conv => arg 1; whnf); (repeat' (first | (refine brt (by assumption) ?_; (conv => arg 1; whnf)) | (refine brf (by assumption) ?_; (conv => arg 1; whnf)) | fail))
            rw [ek] at h2
            refine again (k + 1) [] ⟨hlt, fun j hj => ?_⟩ (by show a.length - (k + 1) < a.length - k; omega) List.nodup_nil ?_ True.intro rfl
            · rcases Nat.lt_or_ge j k with hj' | hj'
              · exact hall j hj'
              · have : j = k := by omega
                rw [this]; simpa using h2
            · repeat' (first | exact True.intro | exact Fit.dead _ | exact Fit.v _ | exact row_self eI _ | exact Fit.v' (congrArg (Value.int .i64) (knxt k (by omega)).symm) | refine And.intro ?_ ?_)
        · have hkl : k = a.length := by have := of_decide_eq_false h1; omega
          (conv => arg 1; whnf); (repeat' (first | (refine brt (by assumption) ?_; (conv => arg 1; whnf)) | (refine brf (by assumption) ?_; (conv => arg 1; whnf)) | fail))
          refine leave ?_
          show tr _
          (conv => arg 1; whnf); (repeat' (first | (refine brt (by assumption) ?_; (conv => arg 1; whnf)) | (refine brf (by assumption) ?_; (conv => arg 1; whnf)) | fail))
          exact finB (decide_eq_true (getD_extI hl fun j hj => hall j (by omega)))

noncomputable def XG0 : Cx := (XF0.add 9 (.foot reads2) (freshCtr tickG)).add 10 (.reads readsL) (borCtr sameIG)
theorem XG0_ok : CxOk Try.prog XG0 := (XF0_ok.fresh tick_ok).bor sameI_ok
theorem speaks16_ok : CtrOk Try.prog 5 (pureCtr (fn0 (giv true (boo true)))) :=
  pureCtr_ok XG0_ok Try.func5 (by decide) rfl fun args u hh => by
    obtain ⟨rfl, hv⟩ := fn0_some hh
    obtain ⟨_, rfl⟩ := giv_some hv
    clear hh hv
    refine ⟨rfl, rfl, ?_⟩
    unfold runF
    (conv => arg 1; whnf)
    exact finB rfl
/-! ### Cars that stand with open doors -/
def openC (a : Int) : Car := ⟨a, a, 0, ⟨2, 1, 0, false⟩, false⟩
theorem openC_right {s : Site} {a : Int} (hs : s.right = true) (h0 : 0 ≤ a) (h1 : a < s.fl) : (openC a).right s = true := by
  have hb := Site.right_bd hs
  unfold Car.right Door.right Site.has openC Site.tk
  simp [hs, h0, h1]
  omega
theorem getRep {α : Type} {n k : Nat} {c d : α} (h : k < n) : (List.replicate n c).getD k d = c := by
  rw [List.getD_eq_getElem?_getD, List.getElem?_eq_getElem (by simpa using h)]; simp
theorem lp_rep {s : Site} {N : Nat} {c c' : Car} (hN : (N : Int) = s.ca) (h1 : 1 ≤ s.ca) (hs : c.safe s c' = true) : leapsB s (List.replicate N c) (List.replicate N c') = false := by
  unfold leapsB
  rw [List.length_replicate, List.length_replicate, decide_eq_true rfl, decide_eq_true hN, decide_eq_false (by omega : ¬ s.ca < 1)]
  show (List.range N).any _ = false
  refine any_no fun j hj => ?_
  rw [getRep hj, getRep hj, hs]; rfl
theorem aw_rep {N : Nat} {c c' : Car} (h : c'.ti = 0) : awayB (List.replicate N c) (List.replicate N c') = false := by
  unfold awayB
  refine any_no fun j hj => ?_
  rw [List.length_replicate, List.length_replicate, Nat.min_self] at hj
  rw [getRep hj, getRep hj]
  unfold goB
  rw [h]; rfl
theorem sv_rep {N : Nat} {a : Int} {k : Cll} (hN : 1 ≤ N) (hk : k.ca = -1) : servedB (List.replicate N (openC a)) k = decide (a = k.fl) := by
  unfold servedB
  rw [List.length_replicate]
  have e : ∀ j, j < N → servB k j ((List.replicate N (openC a)).getD j eCr.dflt) = decide (a = k.fl) := fun j hj => by
    rw [getRep hj]
    unfold servB
    rw [hk]
    show (true && (true && (decide (a = k.fl) && true))) = _
    simp
  cases h : decide (a = k.fl) with
  | true => exact any_yes (k := 0) hN (by rw [e 0 hN, h])
  | false => exact any_no fun j hj => by rw [e j hj, h]
theorem open_step {s : Site} {a : Int} (o : Cmd) (b : Bool) : ((openC a).step s o b).ti = 0 := rfl
theorem sameK_refl (c : Cll) : sameK c c = true := by unfold sameK; simp
section
variable {s : Site} {N : Nat} {a : Int} {o : Cmd} {b : Bool} {k : Cll}
theorem tick1 (hN : (N : Int) = s.ca) (h1 : 1 ≤ s.ca) (h8 : s.ca ≤ 8) (hr : (openC a).right s = true) (hk : k.ca = -1) (r : Bool) :
    lpF s (List.replicate N (openC a)) (List.replicate N ((openC a).step s o b)) = false ∧ awF r (List.replicate N (openC a)) (List.replicate N ((openC a).step s o b)) = false ∧ vnF (List.replicate N (openC a)) [k] [] = !decide (a = k.fl) := by
  refine ⟨lp_rep hN h1 (Car.step_safe hr o b), ?_, ?_⟩
  · unfold awF
    rw [aw_rep (open_step o b), Bool.and_false]
  · unfold vnF vanB
    simp only [List.any_cons, List.any_nil, Bool.or_false, Bool.not_false, Bool.true_and]
    rw [sv_rep (by omega) hk]
end
end Go.Proofs.Ythdeehkmlaejfaa.E
