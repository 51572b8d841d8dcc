/- The law SafeSteps, by the engine. -/
import Derived.Test.YthdeehkmlaejfaaSafeStepM
namespace Go.Proofs.Ythdeehkmlaejfaa.E
open Go NumMath
set_option linter.unusedSimpArgs false
set_option linter.unusedVariables false
set_option maxRecDepth 100000
set_option maxHeartbeats 8000000
theorem sfit_s {ρ : List Nat} {σ : St} {l m sz o n o' n' : Nat} (h : ρ[l]? = some m) (ho : o = o') (hn : n = n') : Fit ρ σ (.s l sz o n) (.s m sz o' n') := by subst ho hn; exact .s h
noncomputable def XSS : Cx := (((((((((XF0.add 9 (.foot reads2) (freshCtr tickG)).add 10 (.reads readsL) (borCtr sameIG)).add 5 .pure (pureCtr (fn0 (giv true (boo true))))).add 6 .pure (pureCtr rightG)).add 8 .pure (pureCtr rcstepG)).add 7 .pure (pureCtr crightG)).join 100000).join 100002).join 200022).join 200032
theorem XSS_ok : CxOk Try.prog XSS := (((((((((XF0_ok.fresh tick_ok).bor sameI_ok).pure speaks16_ok).pure rright_ok).pure rcstep_ok).pure rcright_ok).join 100000 rfl).join 100002 rfl).join 200022 rfl).join 200032 rfl
theorem SafeSteps (us : List AV) (h : areArgs tt [23, 24, 25, 26, 3] us) : runF XSS Try.f3 us [] (boo true) [] := by
  obtain ⟨_, _, rfl, h1, _, _, rfl, h2, _, _, rfl, h3, _, _, rfl, h4, _, _, rfl, h5, rfl⟩ := h
  obtain ⟨s, rfl⟩ := site_arg h1
  obtain ⟨cs, rfl, hcl⟩ := cars_arg h2
  obtain ⟨ds, rfl, hdl⟩ := cmds_arg h3
  obtain ⟨ks, rfl, hkl⟩ := calls_arg h4
  obtain ⟨jp, rfl, _, _⟩ := int_arg h5
  clear h1 h2 h3 h4 h5
  unfold runF
  (conv => arg 1; whnf)
  cases hr : s.right with
  | false =>
    have hr : (⟨s.fl, s.ca, s.st, s.sp, s.so, s.op, s.wa, s.cl, s.nu, s.ag, s.si, s.bu, s.pe⟩ : Site).right = false := hr
    (conv => arg 1; whnf); (repeat' (first | (refine brt (by assumption) ?_; (conv => arg 1; whnf)) | (refine brf (by assumption) ?_; (conv => arg 1; whnf)) | fail))
    exact finB rfl
  | true =>
  have hr : (⟨s.fl, s.ca, s.st, s.sp, s.so, s.op, s.wa, s.cl, s.nu, s.ag, s.si, s.bu, s.pe⟩ : Site).right = true := hr
  cases g1 : (!decide ((cs.length : Int) = s.ca)) with
  | true =>
    (conv => arg 1; whnf); (repeat' (first | (refine brt (by assumption) ?_; (conv => arg 1; whnf)) | (refine brf (by assumption) ?_; (conv => arg 1; whnf)) | fail))
    exact finB rfl
  | false =>
  cases g2 : (!decide ((ds.length : Int) = s.ca)) with
  | true =>
    (conv => arg 1; whnf); (repeat' (first | (refine brt (by assumption) ?_; (conv => arg 1; whnf)) | (refine brf (by assumption) ?_; (conv => arg 1; whnf)) | fail))
    exact finB rfl
  | false =>
  cases g3 : decide ((100 : Int) < (ks.length : Int)) with
  | true =>
    (conv => arg 1; whnf); (repeat' (first | (refine brt (by assumption) ?_; (conv => arg 1; whnf)) | (refine brf (by assumption) ?_; (conv => arg 1; whnf)) | fail))
    exact finB rfl
  | false =>
  have k1 : (cs.length : Int) = s.ca := by simpa using g1
  have k2 : (ds.length : Int) = s.ca := by simpa using g2
  have k3 : ks.length ≤ 100 := by have := of_decide_eq_false g3; omega
  have hr' : s.right = true := hr
  have hb := Site.right_bd hr'
  obtain ⟨N, hN⟩ : ∃ N : Nat, N = cs.length := ⟨_, rfl⟩
  obtain ⟨b, hbl⟩ : ∃ x, x = decide (bits .and .i64 jp 1 = 1) := ⟨_, rfl⟩
  (conv => arg 1; whnf); (repeat' (first | (refine brt (by assumption) ?_; (conv => arg 1; whnf)) | (refine brf (by assumption) ?_; (conv => arg 1; whnf)) | fail))
  refine joinIn (fun _ : Unit => ∀ j, j < N → (cs.getD j eCr.dflt).right s = true) (fun _ => frm 153 [(1, row eCr cs), (2, row eCm ds), (3, row eCl ks), (4, i64 jp), (5, .p 0 0), (11, .s 1 8 0 N)]) (fun _ => [siteB s, tabl eCr (stpL s cs ds b N)]) ?_ (fun _ hall => ?_)
  · (conv => arg 1; whnf); (repeat' (first | (refine brt (by assumption) ?_; (conv => arg 1; whnf)) | (refine brf (by assumption) ?_; (conv => arg 1; whnf)) | fail))
    refine loopIn (fun k : Nat => k ≤ N ∧ ∀ j, j < k → (cs.getD j eCr.dflt).right s = true) (fun k => frm 153 [(1, row eCr cs), (2, row eCm ds), (3, row eCl ks), (4, i64 jp), (5, .p 0 0), (11, .s 1 8 0 k), (46, row eCr cs), (47, i64 (cs.length : Nat)), (48, i64 k)]) (fun k => [siteB s, tabl eCr (stpL s cs ds b k)]) (fun k => N - k) 0 [0, 1] ⟨Nat.zero_le _, fun j hj => absurd hj (Nat.not_lt_zero j)⟩ (by decide) ?_ ?_ rfl fun k hi => ?_
    · (repeat' (first | exact True.intro | exact Fit.dead _ | exact Fit.v _ | exact .p rfl | exact .s rfl | exact .i fun _ _ => rfl | exact .p rfl | exact .s rfl | exact row_self eCr _ | exact row_self eCm _ | exact row_self eCl _ | refine And.intro ?_ ?_))
    · exact ⟨⟨_, rfl, .lit (by (repeat' (first | exact True.intro | exact Fit.dead _ | exact Fit.v _ | exact .p rfl | exact .s rfl | exact .i fun _ _ => rfl | refine And.intro ?_ ?_)))⟩, ⟨_, rfl, fit_tab (e := eCr) (RowIs.nil eCr _)⟩, trivial⟩
    obtain ⟨hk, hall⟩ := hi
    (conv => arg 1; whnf)
    refine br (fun h3 => ?_) (fun h3 => ?_)
    · have hlt : k < N := by have := of_decide_eq_true h3; omega
      have e1 : (decide (0 ≤ (k : Int)) && decide ((k : Int) < (cs.length : Int))) = true := by simp only [Bool.and_eq_true, decide_eq_true_eq]; omega
      have e2 : (decide (0 ≤ (k : Int)) && decide ((k : Int) < (ds.length : Int))) = true := by simp only [Bool.and_eq_true, decide_eq_true_eq]; omega
      obtain ⟨x, hxx⟩ : ∃ x, x = cs.getD (k : Int).toNat eCr.dflt := ⟨_, rfl⟩
      have hxk : x = cs.getD k eCr.dflt := by rw [hxx]; simp
      (conv => arg 1; whnf); (repeat' (first | (refine brt (by assumption) ?_; (conv => arg 1; whnf)) | (refine brf (by assumption) ?_; (conv => arg 1; whnf)) | fail))
      rw [← hxx]
      cases hxr : x.right s with
      | false =>
        (conv => arg 1; whnf); (repeat' (first | (refine brt (by assumption) ?_; (conv => arg 1; whnf)) | (refine brf (by assumption) ?_; (conv => arg 1; whnf)) | fail))
        refine leaveRet ?_
        show tr _
        (conv => arg 1; whnf); (repeat' (first | (refine brt (by assumption) ?_; (conv => arg 1; whnf)) | (refine brf (by assumption) ?_; (conv => arg 1; whnf)) | fail))
        exact finB rfl
      | true =>
      (conv => arg 1; whnf); (repeat' (first | (refine brt (by assumption) ?_; (conv => arg 1; whnf)) | (refine brf (by assumption) ?_; (conv => arg 1; whnf)) | fail))
      (refine brt ?_ ?_; (focus (exact and2 (Nat.ble_eq_true_of_le (by rw [stpL_len]; omega)) (and2 rfl (Nat.ble_eq_true_of_le (by omega))); done)); (conv => arg 1; whnf))
      (conv => arg 1; whnf); (repeat' (first | (refine brt (by assumption) ?_; (conv => arg 1; whnf)) | (refine brf (by assumption) ?_; (conv => arg 1; whnf)) | fail))
      refine again (k + 1) [0, 4] ⟨hlt, fun j hj => ?_⟩ (by show N - (k + 1) < N - k; omega) (by decide) ?_ ?_ rfl
      · rcases Nat.lt_or_ge j k with h | h
        · exact hall j h
        · obtain rfl : j = k := by omega
          rw [← hxk]; exact hxr
      · (repeat' (first | exact True.intro | exact Fit.dead _ | exact Fit.v _ | exact .p rfl | exact .s rfl | exact .i fun _ _ => rfl | exact .p rfl | exact row_self eCr _ | exact row_self eCm _ | exact row_self eCl _ | exact sfit_s rfl rfl rfl | exact Fit.v' (congrArg (Value.int .i64) (knxt k (by omega)).symm) | refine And.intro ?_ ?_))
      · rw [stpL_succ]
        exact ⟨⟨_, rfl, .lit (by (repeat' (first | exact True.intro | exact Fit.dead _ | exact Fit.v _ | exact .p rfl | exact .s rfl | exact .i fun _ _ => rfl | refine And.intro ?_ ?_)))⟩, ⟨_, rfl, fit_tab (e := eCr) (RowIs.snoc eCr (RowIs.all eCr (⟨stpL_len.symm, fun _ _ => rfl⟩ : RowIs eCr k _ (stpL s cs ds b k))) (by
          show eCr.enc (x.step s (ds.getD (k : Int).toNat eCm.dflt) _) = eCr.enc ((cs.getD k eCr.dflt).step s (ds.getD k eCm.dflt) b)
          rw [hxk, hbl]; rfl))⟩, trivial⟩
    · have hkN : k = N := by have := of_decide_eq_false h3; omega
      rw [hkN] at hall ⊢
      (conv => arg 1; whnf); (repeat' (first | (refine brt (by assumption) ?_; (conv => arg 1; whnf)) | (refine brf (by assumption) ?_; (conv => arg 1; whnf)) | fail))
      refine leave ?_
      show tr _
      (conv => arg 1; whnf); (repeat' (first | (refine brt (by assumption) ?_; (conv => arg 1; whnf)) | (refine brf (by assumption) ?_; (conv => arg 1; whnf)) | fail))
      refine joinTo () [0, 1] hall (by decide) ?_ ⟨⟨_, rfl, .lit (by (repeat' (first | exact True.intro | exact Fit.dead _ | exact Fit.v _ | exact .p rfl | exact .s rfl | exact .i fun _ _ => rfl | refine And.intro ?_ ?_)))⟩, ⟨_, rfl, .tab fun _ _ => rfl⟩, trivial⟩ rfl
      (repeat' (first | exact True.intro | exact Fit.dead _ | exact Fit.v _ | exact .p rfl | exact .s rfl | exact .i fun _ _ => rfl | exact .p rfl | exact row_self eCr _ | exact row_self eCm _ | exact row_self eCl _ | exact sfit_s rfl rfl rfl | refine And.intro ?_ ?_))
  · (conv => arg 1; whnf); (repeat' (first | (refine brt (by assumption) ?_; (conv => arg 1; whnf)) | (refine brf (by assumption) ?_; (conv => arg 1; whnf)) | fail))
    refine joinIn (fun W : List Cll => (Apart W ∧ ∀ c ∈ W, 0 ≤ c.ag ∧ c.ag ≤ 65535) ∧ W.length ≤ 100) (fun W => frm 153 [(1, row eCr cs), (4, i64 jp), (5, .p 0 0), (11, .s 1 8 0 N), (14, .s 2 4 0 W.length), (16, .s 3 4 0 W.length)]) (fun W => [siteB s, tabl eCr (stpL s cs ds b N), tabl eCl (W.map oldC), tabl eCl W]) ?_ (fun W hW => ?_)
    · (conv => arg 1; whnf); (repeat' (first | (refine brt (by assumption) ?_; (conv => arg 1; whnf)) | (refine brf (by assumption) ?_; (conv => arg 1; whnf)) | fail))
      refine loopIn (fun p : Nat × List Cll => ((Apart p.2 ∧ ∀ c ∈ p.2, 0 ≤ c.ag ∧ c.ag ≤ 65535) ∧ p.2.length ≤ p.1) ∧ p.1 ≤ ks.length) (fun p => frm 153 [(1, row eCr cs), (4, i64 jp), (5, .p 0 0), (11, .s 1 8 0 N), (14, .s 2 4 0 p.2.length), (15, .mp 3), (16, .s 4 4 0 p.2.length), (74, row eCl ks), (75, i64 (ks.length : Nat)), (76, i64 p.1)]) (fun p => [siteB s, tabl eCr (stpL s cs ds b N), tabl eCl (p.2.map oldC), .map (seenF 0 p.2) p.2.length, tabl eCl p.2]) (fun p => ks.length - p.1) (0, []) [0, 1, 2, 3, 4] ⟨⟨⟨List.Pairwise.nil, fun c hc => absurd hc (List.not_mem_nil)⟩, Nat.le_refl _⟩, Nat.zero_le _⟩ (by decide) ?_ ?_ rfl fun p hi => ?_
      · (repeat' (first | exact True.intro | exact Fit.dead _ | exact Fit.v _ | exact .p rfl | exact .s rfl | exact .i fun _ _ => rfl | exact .p rfl | exact .mp rfl | exact row_self eCr _ | exact row_self eCm _ | exact row_self eCl _ | exact sfit_s rfl rfl rfl | refine And.intro ?_ ?_))
      · exact ⟨⟨_, rfl, .lit (by (repeat' (first | exact True.intro | exact Fit.dead _ | exact Fit.v _ | exact .p rfl | exact .s rfl | exact .i fun _ _ => rfl | refine And.intro ?_ ?_)))⟩, ⟨_, rfl, .tab fun _ _ => rfl⟩, ⟨_, rfl, fit_tab (e := eCl) (RowIs.nil eCl _)⟩, ⟨_, rfl, .map _ _⟩, ⟨_, rfl, fit_tab (e := eCl) (RowIs.nil eCl _)⟩, trivial⟩
      obtain ⟨k, W⟩ := p
      obtain ⟨⟨⟨hA, hag⟩, hWk⟩, hk⟩ := hi
      have hWk : W.length ≤ k := hWk
      have hk : k ≤ ks.length := hk
      have hag : ∀ c ∈ W, 0 ≤ c.ag ∧ c.ag ≤ 65535 := hag
      have hA : Apart W := hA
      (conv => arg 1; whnf)
      refine br (fun h3 => ?_) (fun h3 => ?_)
      · have hlt : k < ks.length := by have := of_decide_eq_true h3; omega
        have e1 : (decide (0 ≤ (k : Int)) && decide ((k : Int) < (ks.length : Int))) = true := by simp only [Bool.and_eq_true, decide_eq_true_eq]; omega
        obtain ⟨x, hxx⟩ : ∃ x, x = ks.getD (k : Int).toNat eCl.dflt := ⟨_, rfl⟩
        obtain ⟨ag, hagx⟩ : ∃ a, a = bits .and .i64 x.ag 65535 := ⟨_, rfl⟩
        have hagb : 0 ≤ ag ∧ ag ≤ 65535 := by rw [hagx, and65535]; omega
        (conv => arg 1; whnf); (repeat' (first | (refine brt (by assumption) ?_; (conv => arg 1; whnf)) | (refine brf (by assumption) ?_; (conv => arg 1; whnf)) | fail))
        rw [← hxx, ← hagx]
        (refine brt ?_ ?_; (focus (exact and2 (keyS_ok ⟨x.fl, x.ca, ag, x.up⟩) (okS_seen ⟨x.fl, x.ca, ag, x.up⟩ W 0); done)); (conv => arg 1; whnf))
        cases hq : W.any (sameK ⟨x.fl, x.ca, ag, x.up⟩) with
        | true =>
          obtain ⟨j, hm⟩ := seen_some (c := ⟨x.fl, x.ca, ag, x.up⟩) 0 0 hq
          have hm : mFindS XSS.tt 39 [i64 x.fl, i64 x.ca, AV.v (Value.int IntKind.i64 0), boo x.up] (seenF 0 (k, W).snd) 0 = some (j, .bool true) := hm
          rw [hm]
          (conv => arg 1; whnf); (repeat' (first | (refine brt (by assumption) ?_; (conv => arg 1; whnf)) | (refine brf (by assumption) ?_; (conv => arg 1; whnf)) | fail))
          refine again (k + 1, W) [0, 1, 2, 3, 4] ⟨⟨⟨hA, hag⟩, by show W.length ≤ k + 1; omega⟩, by show k + 1 ≤ ks.length; omega⟩ (by show ks.length - (k + 1) < ks.length - k; omega) (by decide) ?_ ?_ rfl
          · (repeat' (first | exact True.intro | exact Fit.dead _ | exact Fit.v _ | exact .p rfl | exact .s rfl | exact .i fun _ _ => rfl | exact .p rfl | exact .mp rfl | exact row_self eCr _ | exact row_self eCm _ | exact row_self eCl _ | exact sfit_s rfl rfl rfl | exact Fit.v' (congrArg (Value.int .i64) (knxt k (by omega)).symm) | refine And.intro ?_ ?_))
          · exact ⟨⟨_, rfl, .lit (by (repeat' (first | exact True.intro | exact Fit.dead _ | exact Fit.v _ | exact .p rfl | exact .s rfl | exact .i fun _ _ => rfl | refine And.intro ?_ ?_)))⟩, ⟨_, rfl, .tab fun _ _ => rfl⟩, ⟨_, rfl, .tab fun _ _ => rfl⟩, ⟨_, rfl, .map _ _⟩, ⟨_, rfl, .tab fun _ _ => rfl⟩, trivial⟩
        | false =>
          have hq' : ∀ d ∈ W, sameK ⟨x.fl, x.ca, ag, x.up⟩ d = false := fun d hd => by simpa using List.any_eq_false.1 hq d hd
          have hm : mFindS XSS.tt 39 [i64 x.fl, i64 x.ca, AV.v (Value.int IntKind.i64 0), boo x.up] (seenF 0 (k, W).snd) 0 = none := seen_none 0 0 hq'
          rw [hm]
          (conv => arg 1; whnf)
          refine joinIn (fun _ : Unit => True) (fun _ => frm 153 [(1, row eCr cs), (4, i64 jp), (5, .p 0 0), (11, .s 1 8 0 N), (14, .s 2 4 0 W.length), (15, .mp 3), (16, .s 4 4 0 W.length), (18, .p 5 0), (74, row eCl ks), (75, i64 (ks.length : Nat)), (76, i64 k)]) (fun _ => [siteB s, tabl eCr (stpL s cs ds b N), tabl eCl (W.map oldC), .map (seenF 0 (W ++ [⟨x.fl, x.ca, ag, x.up⟩])) (W ++ [(⟨x.fl, x.ca, ag, x.up⟩ : Cll)]).length, tabl eCl W, .lit [i64 x.fl, i64 x.ca, i64 ag, boo x.up]]) ?_ (fun _ _ => ?_)
          · (conv => arg 1; whnf)
            (refine brt ?_ ?_; (focus (exact and2 (and2 (keyS_ok ⟨x.fl, x.ca, ag, x.up⟩) (okS_seen ⟨x.fl, x.ca, ag, x.up⟩ W 0)) (by show noneB (mFindS tt 39 (keyC ⟨x.fl, x.ca, ag, x.up⟩) (seenF 0 W) 0) = true; rw [seen_none 0 0 hq']; rfl); done)); (conv => arg 1; whnf))
            refine joinTo () [0, 1, 2, 3, 4, 5] trivial (by decide) ?_ ⟨⟨_, rfl, .lit (by (repeat' (first | exact True.intro | exact Fit.dead _ | exact Fit.v _ | exact .p rfl | exact .s rfl | exact .i fun _ _ => rfl | refine And.intro ?_ ?_)))⟩, ⟨_, rfl, .tab fun _ _ => rfl⟩, ⟨_, rfl, .tab fun _ _ => rfl⟩, ⟨_, rfl, fitMapS (by rw [seenF_snoc, Nat.zero_add]; rfl) (by rw [List.length_append]; rfl)⟩, ⟨_, rfl, .tab fun _ _ => rfl⟩, ⟨_, rfl, .lit (by (repeat' (first | exact True.intro | exact Fit.dead _ | exact Fit.v _ | exact .p rfl | exact .s rfl | exact .i fun _ _ => rfl | refine And.intro ?_ ?_)))⟩, trivial⟩ rfl
            (repeat' (first | exact True.intro | exact Fit.dead _ | exact Fit.v _ | exact .p rfl | exact .s rfl | exact .i fun _ _ => rfl | exact .p rfl | exact .mp rfl | exact row_self eCr _ | exact row_self eCm _ | exact row_self eCl _ | exact sfit_s rfl rfl rfl | refine And.intro ?_ ?_))
          (conv => arg 1; whnf)
          (refine brt ?_ ?_; (focus (exact and2 (Nat.ble_eq_true_of_le (by show 0 + W.length ≤ W.length; omega)) (and2 rfl (Nat.ble_eq_true_of_le (by show W.length + 1 ≤ 4294967295; omega))); done)); (conv => arg 1; whnf))
          (conv => arg 1; whnf); (repeat' (first | (refine brt (by assumption) ?_; (conv => arg 1; whnf)) | (refine brf (by assumption) ?_; (conv => arg 1; whnf)) | fail))
          (refine brt ?_ ?_; (focus (exact and2 (Nat.ble_eq_true_of_le (by show 0 + W.length ≤ (W.map oldC).length; rw [List.length_map]; omega)) (and2 rfl (Nat.ble_eq_true_of_le (by show W.length + 1 ≤ 4294967295; omega))); done)); (conv => arg 1; whnf))
          (conv => arg 1; whnf); (repeat' (first | (refine brt (by assumption) ?_; (conv => arg 1; whnf)) | (refine brf (by assumption) ?_; (conv => arg 1; whnf)) | fail))
          have haw : IntKind.i64.wrap (ag + 1) = ag + 1 := wi _ (by omega) (by omega)
          refine again (k + 1, W ++ [⟨x.fl, x.ca, ag, x.up⟩]) [0, 1, 9, 3, 7] ⟨⟨⟨apart_snoc hA hq', fun c hc => ?_⟩, by show (W ++ [_]).length ≤ k + 1; rw [List.length_append]; show W.length + 1 ≤ k + 1; omega⟩, by show k + 1 ≤ ks.length; omega⟩ (by show ks.length - (k + 1) < ks.length - k; omega) (by decide) ?_ ?_ rfl
          · rcases List.mem_append.1 hc with h | h
            · exact hag c h
            · rw [List.mem_singleton.1 h]; exact hagb
          · (repeat' (first | exact True.intro | exact Fit.dead _ | exact Fit.v _ | exact .p rfl | exact .s rfl | exact .i fun _ _ => rfl | exact .p rfl | exact .mp rfl | exact row_self eCr _ | exact row_self eCm _ | exact row_self eCl _ | exact sfit_s rfl rfl (by show (W ++ [_]).length = W.length + 1; rw [List.length_append]; rfl) | exact Fit.v' (congrArg (Value.int .i64) (knxt k (by omega)).symm) | refine And.intro ?_ ?_))
          · refine ⟨⟨_, rfl, .lit (by (repeat' (first | exact True.intro | exact Fit.dead _ | exact Fit.v _ | exact .p rfl | exact .s rfl | exact .i fun _ _ => rfl | refine And.intro ?_ ?_)))⟩, ⟨_, rfl, .tab fun _ _ => rfl⟩, ⟨_, rfl, ?_⟩, ⟨_, rfl, .map _ _⟩, ⟨_, rfl, fit_tab (e := eCl) (RowIs.snoc eCl (RowIs.all eCl (⟨rfl, fun _ _ => rfl⟩ : RowIs eCl W.length _ W)) ?_)⟩, trivial⟩
            · rw [List.map_append]
              refine fit_tab (e := eCl) (RowIs.snoc eCl (RowIs.all eCl (⟨(List.length_map oldC).symm, fun _ _ => rfl⟩ : RowIs eCl W.length _ (W.map oldC))) ?_)
              show _ = eCl.enc ⟨x.fl, x.ca, ag + 1, x.up⟩
              exact congrArg (fun z => [i64 x.fl, i64 x.ca, i64 z, boo x.up]) haw
            · rfl
      · have hkN : k = ks.length := by have := of_decide_eq_false h3; omega
        (conv => arg 1; whnf); (repeat' (first | (refine brt (by assumption) ?_; (conv => arg 1; whnf)) | (refine brf (by assumption) ?_; (conv => arg 1; whnf)) | fail))
        refine leave ?_
        show tr _
        (conv => arg 1; whnf); (repeat' (first | (refine brt (by assumption) ?_; (conv => arg 1; whnf)) | (refine brf (by assumption) ?_; (conv => arg 1; whnf)) | fail))
        refine joinTo W [0, 1, 2, 4] ⟨⟨hA, hag⟩, by omega⟩ (by decide) ?_ ⟨⟨_, rfl, .lit (by (repeat' (first | exact True.intro | exact Fit.dead _ | exact Fit.v _ | exact .p rfl | exact .s rfl | exact .i fun _ _ => rfl | refine And.intro ?_ ?_)))⟩, ⟨_, rfl, .tab fun _ _ => rfl⟩, ⟨_, rfl, .tab fun _ _ => rfl⟩, ⟨_, rfl, .tab fun _ _ => rfl⟩, trivial⟩ rfl
        (repeat' (first | exact True.intro | exact Fit.dead _ | exact Fit.v _ | exact .p rfl | exact .s rfl | exact .i fun _ _ => rfl | exact .p rfl | exact row_self eCr _ | exact row_self eCm _ | exact row_self eCl _ | exact sfit_s rfl rfl rfl | refine And.intro ?_ ?_))
    · obtain ⟨⟨hA, hag⟩, hWk⟩ := hW
      (conv => arg 1; whnf); (repeat' (first | (refine brt (by assumption) ?_; (conv => arg 1; whnf)) | (refine brf (by assumption) ?_; (conv => arg 1; whnf)) | fail))
      obtain ⟨A1, A2⟩ := tick_same (ds := ds) (b := b) (W := W) hN.symm (show (N : Int) = s.ca by omega) (by omega) (by omega) hall hA hag hWk
      have rN : rows eCr N (fun k => eCr.enc ((stpL s cs ds b N).getD (0 + k) eCr.dflt)) = stpL s cs ds b N := RowIs.rows (l := stpL s cs ds b N) eCr (RowIs.all eCr ⟨stpL_len.symm, fun _ _ => rfl⟩)
      have rW : rows eCl W.length (fun k => eCl.enc (W.getD (0 + k) eCl.dflt)) = W := RowIs.rows (l := W) eCl (RowIs.all eCl ⟨rfl, fun _ _ => rfl⟩)
      have rO : rows eCl W.length (fun k => eCl.enc ((W.map oldC).getD (0 + k) eCl.dflt)) = W.map oldC := RowIs.rows (l := W.map oldC) eCl (RowIs.all eCl ⟨(List.length_map oldC).symm, fun _ _ => rfl⟩)
      conv in (Prod.snd (9, freshCtr tickG) _ _) => tactic => (apply stickAt (L := []); rfl; rfl; (rw [rows_row]; simp only [rN, rW, rO]; exact A1))
      (conv => arg 1; whnf); (repeat' (first | (refine brt (by assumption) ?_; (conv => arg 1; whnf)) | (refine brf (by assumption) ?_; (conv => arg 1; whnf)) | fail))
      have iN : isRow eCr N 8 (fun k => eCr.enc ((stpL s cs ds b N).getD (0 + k) eCr.dflt)) = true := RowIs.isRow (l := stpL s cs ds b N) eCr (RowIs.all eCr ⟨stpL_len.symm, fun _ _ => rfl⟩) (by rw [stpL_len]; omega)
      have iW : isRow eCl W.length 4 (fun k => eCl.enc (W.getD (0 + k) eCl.dflt)) = true := RowIs.isRow (l := W) eCl (RowIs.all eCl ⟨rfl, fun _ _ => rfl⟩) (by omega)
      have iO : isRow eCl W.length 4 (fun k => eCl.enc ((W.map oldC).getD (0 + k) eCl.dflt)) = true := RowIs.isRow (l := W.map oldC) eCl (RowIs.all eCl ⟨(List.length_map oldC).symm, fun _ _ => rfl⟩) (by rw [List.length_map]; omega)
      have iC := isRow_row eCr (l := cs) hcl
      (refine brt ?_ ?_; (focus (exact and2 (and2 rfl (and2 rfl (and2 (decide_eq_true (by rw [stpL_len]; omega)) (and2 (decide_eq_true (by omega)) (and2 (decide_eq_true (by rw [List.length_map]; omega)) (and2 rfl rfl)))))) (and2 (and2 (and2 (and2 (and2 (and2 (by rw [rows_row]; simp only [rN, rW, rO]; exact A2) rfl) iO) iW) iN) iC) rfl); done)); (conv => arg 1; whnf))
      have z1 : (!decide (s.ca = 0)) = true := by rw [decide_eq_false (by omega)]; rfl
      have z2 : (!decide (s.fl = 0)) = true := by rw [decide_eq_false (by omega)]; rfl
      obtain ⟨n, hn, hnN⟩ : ∃ n : Nat, (bits .and .i64 jp 65535).tmod s.ca = (n : Int) ∧ n < N := by
        rw [and65535, Int.tmod_eq_emod_of_nonneg (by omega)]
        have q1 := Int.emod_nonneg (jp % 65536) (show s.ca ≠ 0 by omega)
        have q2 := Int.emod_lt_of_pos (jp % 65536) (show 0 < s.ca by omega)
        exact ⟨((jp % 65536) % s.ca).toNat, by omega, by omega⟩
      have e1 : (decide (0 ≤ (n : Int)) && decide ((n : Int) < (cs.length : Int))) = true := by simp only [Bool.and_eq_true, decide_eq_true_eq]; omega
      (conv => arg 1; whnf); (repeat' (first | (refine brt (by assumption) ?_; (conv => arg 1; whnf)) | (refine brf (by assumption) ?_; (conv => arg 1; whnf)) | fail))
      rw [hn]
      (conv => arg 1; whnf); (repeat' (first | (refine brt (by assumption) ?_; (conv => arg 1; whnf)) | (refine brf (by assumption) ?_; (conv => arg 1; whnf)) | fail))
      cases ht : (!decide ((cs.getD (n : Int).toNat eCr.dflt).ti = 0)) with
      | true =>
        (conv => arg 1; whnf); (repeat' (first | (refine brt (by assumption) ?_; (conv => arg 1; whnf)) | (refine brf (by assumption) ?_; (conv => arg 1; whnf)) | fail))
        exact finB rfl
      | false =>
      have ht0 : (cs.getD n eCr.dflt).ti = 0 := by simpa using ht
      have hfl : 0 ≤ (cs.getD n eCr.dflt).fl ∧ (cs.getD n eCr.dflt).fl < s.fl := by
        have := hall n hnN
        unfold Car.right Site.has at this
        simp only [Bool.and_eq_true, decide_eq_true_eq] at this
        exact this.2.1
      have e2 : (decide (0 ≤ (n : Int)) && decide ((n : Int) < (N : Int))) = true := by simp only [Bool.and_eq_true, decide_eq_true_eq]; omega
      obtain ⟨f, hf, hne⟩ : ∃ f : Int, (IntKind.i64.wrap ((cs.getD (n : Int).toNat eCr.dflt).fl + 1)).tmod s.fl = f ∧ (cs.getD n eCr.dflt).fl ≠ f := by
        refine ⟨_, rfl, ?_⟩
        rw [Int.toNat_natCast, wi _ (by omega) (by omega)]
        by_cases hq : (cs.getD n eCr.dflt).fl + 1 = s.fl
        · rw [hq, Int.tmod_self]; omega
        · rw [Int.tmod_eq_of_lt (by omega) (by omega)]; omega
      obtain ⟨nc, hnc⟩ : ∃ c : Car, c = ⟨f, f, 0, ⟨0, 0, 0, false⟩, false⟩ := ⟨_, rfl⟩
      refine joinIn (fun _ : Unit => True) (fun _ => frm 153 [(1, row eCr cs), (5, .p 0 0), (11, .s 1 8 0 N), (14, .s 2 4 0 W.length), (16, .s 3 4 0 W.length)]) (fun _ => [siteB s, tabl eCr ((stpL s cs ds b N).set n nc), tabl eCl (W.map oldC), tabl eCl W]) ?_ (fun _ _ => ?_)
      · (conv => arg 1; whnf); (repeat' (first | (refine brt (by assumption) ?_; (conv => arg 1; whnf)) | (refine brf (by assumption) ?_; (conv => arg 1; whnf)) | fail))
        rw [hf]
        (refine brt ?_ ?_; (focus (exact decide_eq_true (by rw [stpL_len]; omega); done)); (conv => arg 1; whnf))
        (conv => arg 1; whnf); (repeat' (first | (refine brt (by assumption) ?_; (conv => arg 1; whnf)) | (refine brf (by assumption) ?_; (conv => arg 1; whnf)) | fail))
        refine joinTo () [0, 1, 2, 3] trivial (by decide) ?_ ⟨⟨_, rfl, .lit (by (repeat' (first | exact True.intro | exact Fit.dead _ | exact Fit.v _ | exact .p rfl | exact .s rfl | exact .i fun _ _ => rfl | refine And.intro ?_ ?_)))⟩, ⟨_, rfl, fit_tab (e := eCr) (RowIs.put eCr (i := n) (a := nc) (⟨rfl, fun _ _ => rfl⟩ : RowIs eCr (stpL s cs ds b N).length _ (stpL s cs ds b N)) (by omega) (by rw [stpL_len]; omega) (by rw [hnc]; rfl))⟩, ⟨_, rfl, .tab fun _ _ => rfl⟩, ⟨_, rfl, .tab fun _ _ => rfl⟩, trivial⟩ rfl
        (repeat' (first | exact True.intro | exact Fit.dead _ | exact Fit.v _ | exact .p rfl | exact .s rfl | exact .i fun _ _ => rfl | exact .p rfl | exact row_self eCr _ | exact row_self eCm _ | exact row_self eCl _ | exact sfit_s rfl rfl rfl | refine And.intro ?_ ?_))
      · (conv => arg 1; whnf); (repeat' (first | (refine brt (by assumption) ?_; (conv => arg 1; whnf)) | (refine brf (by assumption) ?_; (conv => arg 1; whnf)) | fail))
        obtain ⟨B1, B2⟩ := tick_jump (now := stpL s cs ds b N) (c := nc) (W := W) hN.symm stpL_len (show (N : Int) = s.ca by omega) (by omega) hnN ht0 (by rw [hnc]) (by rw [hnc]; exact hne) hA hag hWk
        have rS : rows eCr N (fun k => eCr.enc (((stpL s cs ds b N).set n nc).getD (0 + k) eCr.dflt)) = (stpL s cs ds b N).set n nc := RowIs.rows (l := (stpL s cs ds b N).set n nc) eCr (RowIs.all eCr ⟨by rw [List.length_set, stpL_len], fun _ _ => rfl⟩)
        have iS : isRow eCr N 8 (fun k => eCr.enc (((stpL s cs ds b N).set n nc).getD (0 + k) eCr.dflt)) = true := RowIs.isRow (l := (stpL s cs ds b N).set n nc) eCr (RowIs.all eCr ⟨by rw [List.length_set, stpL_len], fun _ _ => rfl⟩) (by rw [List.length_set, stpL_len]; omega)
        conv in (Prod.snd (9, freshCtr tickG) _ _) => tactic => (apply stickAt (L := [1]); rfl; rfl; (rw [rows_row]; simp only [rS, rW, rO]; exact B1))
        (conv => arg 1; whnf); (repeat' (first | (refine brt (by assumption) ?_; (conv => arg 1; whnf)) | (refine brf (by assumption) ?_; (conv => arg 1; whnf)) | fail))
        (refine brt ?_ ?_; (focus (exact and2 (and2 rfl (and2 rfl (and2 (decide_eq_true (by rw [List.length_set, stpL_len]; omega)) (and2 (decide_eq_true (by omega)) (and2 (decide_eq_true (by rw [List.length_map]; omega)) (and2 rfl rfl)))))) (and2 (and2 (and2 (and2 (and2 (and2 (by rw [rows_row]; simp only [rS, rW, rO]; exact B2) rfl) iO) iW) iS) iC) rfl); done)); (conv => arg 1; whnf))
        (conv => arg 1; whnf); (repeat' (first | (refine brt (by assumption) ?_; (conv => arg 1; whnf)) | (refine brf (by assumption) ?_; (conv => arg 1; whnf)) | fail))
        exact finB rfl
end Go.Proofs.Ythdeehkmlaejfaa.E
