/- The law SafeCalls, by the engine. -/
import Derived.Test.YthdeehkmlaejfaaSafeLawE
namespace Go.Proofs.Ythdeehkmlaejfaa.E
open Go NumMath
set_option linter.unusedSimpArgs false
set_option linter.unusedVariables false
set_option maxRecDepth 100000
set_option maxHeartbeats 8000000
theorem fit_fz {α : Type} {e : Elt α} {ρ : List Nat} {σ : St} {m sz o n n' : Nat} {g : Nat → List AV} {l : List α} (h : σ[m]? = some (.tab sz n' g)) (hs : sz = e.sz) (hm : m ∉ ρ) (hn : o + n ≤ n') (hR : RowIs e n (fun k => g (o + k)) l) : Fit ρ σ (row e l) (.s m sz o n) := by
  subst hs
  have hl := hR.len
  subst hl
  exact .fz h hm hn fun k hk => (hR.get k hk).symm
theorem fit_s {ρ : List Nat} {σ : St} {l m sz o n o' n' : Nat} (h : ρ[l]? = some m) (ho : o = o') (hn : n = n') : Fit ρ σ (.s l sz o n) (.s m sz o' n') := by subst ho hn; exact .s h
theorem freshAt {G : List AV → Option (Bool × AV × St)} {args : List AV} {σ : St} {c : Bool} {u : AV} {σn : St} (h0 : ((reads2 args σ).all fun l => Nat.blt l σ.length) = true) (h1 : G (args.map (viewD σ)) = some (c, u, σn)) (h2 : newU u = true) :
    freshCtr G args σ = some (args.all (vokD σ) && c, reAV (shiftR σ.length) u, σ ++ σn.map (reB (shiftR σ.length))) := by
  unfold freshCtr
  simp only [h0, h1, h2]
theorem tickAt {args : List AV} {σ : St} {c : Bool} {L' L : List Int} (h0 : ((reads2 args σ).all fun l => Nat.blt l σ.length) = true) (h1 : tickG (args.map (viewD σ)) = some (c, resL L')) (hL : L' = L) :
    Prod.snd (9, freshCtr tickG) args σ = some (args.all (vokD σ) && c, reAV (shiftR σ.length) (resL L).1, σ ++ (resL L).2.map (reB (shiftR σ.length))) := by
  subst hL
  exact freshAt h0 h1 (by cases L' <;> rfl)
theorem rows1 {g : Nat → List AV} {c : Cll} (h : g 0 = eCl.enc c) : rows eCl 1 g = [c] := RowIs.rows (l := [c]) eCl ⟨rfl, fun k hk => by
  obtain rfl : k = 0 := by
    have : k < 1 := hk
    omega
  exact h⟩
section
variable {s : Site} {N : Nat} {a : Int} {o : Cmd} {b : Bool} {k : Cll}
theorem tA (hN : (N : Int) = s.ca) (h1 : 1 ≤ s.ca) (h8 : s.ca ≤ 8) (hr : (openC a).right s = true) (hk : k.ca = -1) :
    tickL s (List.replicate N (openC a)) (List.replicate N ((openC a).step s o b)) [k] [] false = cond (decide (a = k.fl)) [] [2] ∧ tickC s (List.replicate N (openC a)) (List.replicate N ((openC a).step s o b)) [k] [] false = true := by
  obtain ⟨e1, e2, e3⟩ := tick1 (o := o) (b := b) hN h1 h8 hr hk false
  have e4 : ygF [k] [] = false := rfl
  unfold tickL tickC
  rw [e1, e2, e3, e4]
  cases decide (a = k.fl) <;> simp [few4, nodupK] <;> omega
theorem tB {k2 : Cll} (hN : (N : Int) = s.ca) (h1 : 1 ≤ s.ca) (h8 : s.ca ≤ 8) (hr : (openC a).right s = true) (hk : k.ca = -1) (hs : sameK k k2 = true) (hs2 : sameK k2 k = true) (hag : k2.ag = lim (lim k.ag + lim 1)) :
    tickL s (List.replicate N (openC a)) (List.replicate N ((openC a).step s o b)) [k] [k2] true = [] ∧ tickC s (List.replicate N (openC a)) (List.replicate N ((openC a).step s o b)) [k] [k2] true = true := by
  obtain ⟨e1, e2, _⟩ := tick1 (o := o) (b := b) hN h1 h8 hr hk true
  have e3 : vnF (List.replicate N (openC a)) [k] [k2] = false := by unfold vnF vanB; simp [hs]
  have e4 : ygF [k] [k2] = false := by
    unfold ygF youB
    simp only [List.any_cons, List.any_nil, Bool.or_false, List.find?_cons_of_pos hs2]
    rw [hag]; simp
  unfold tickL tickC
  rw [e1, e2, e3, e4]
  simp [few4, nodupK]
  omega
theorem tC (hN : (N : Int) = s.ca) (h1 : 1 ≤ s.ca) (h8 : s.ca ≤ 8) (hr : (openC a).right s = true) (hk : k.ca = -1) :
    tickL s (List.replicate N (openC a)) (List.replicate N ((openC a).step s o b)) [] [k] false = cond (decide (k.ag = 1)) [] [4] ∧ tickC s (List.replicate N (openC a)) (List.replicate N ((openC a).step s o b)) [] [k] false = true := by
  obtain ⟨e1, e2, _⟩ := tick1 (o := o) (b := b) hN h1 h8 hr hk false
  have e3 : vnF (List.replicate N (openC a)) [] [k] = false := rfl
  have e4 : ygF [] [k] = !decide (k.ag = 1) := by
    unfold ygF youB
    simp
  unfold tickL tickC
  rw [e1, e2, e3, e4]
  cases decide (k.ag = 1) <;> simp [few4, nodupK] <;> omega
end
noncomputable def XSC : Cx := ((((((XF0.add 9 (.foot reads2) (freshCtr tickG)).add 10 (.reads readsL) (borCtr sameIG)).add 5 .pure (pureCtr (fn0 (giv true (boo true))))).add 6 .pure (pureCtr rightG)).add 8 .pure (pureCtr rcstepG)).join 100000).join 100002
theorem XSC_ok : CxOk Try.prog XSC := ((((((XF0_ok.fresh tick_ok).bor sameI_ok).pure speaks16_ok).pure rright_ok).pure rcstep_ok).join 100000 rfl).join 100002 rfl
theorem SafeCalls (us : List AV) (h : areArgs tt [23, 3, 3, 3, 3] us) : runF XSC Try.f4 us [] (boo true) [] := by
  obtain ⟨_, _, rfl, h1, _, _, rfl, h2, _, _, rfl, h3, _, _, rfl, h4, _, _, rfl, h5, rfl⟩ := h
  obtain ⟨s, rfl⟩ := site_arg h1
  obtain ⟨fl, rfl, _, _⟩ := int_arg h2
  obtain ⟨a, rfl, _, _⟩ := int_arg h3
  obtain ⟨gone, rfl, _, _⟩ := int_arg h4
  obtain ⟨age, rfl, _, _⟩ := int_arg h5
  clear h1 h2 h3 h4 h5
  unfold runF
  (conv => arg 1; whnf)
  cases hr : s.right with
  | false =>
    have hr : (⟨s.fl, s.ca, s.st, s.sp, s.so, s.op, s.wa, s.cl, s.nu, s.ag, s.si, s.bu, s.pe⟩ : Site).right = false := hr
    (conv => arg 1; whnf); (repeat' (first | (refine brt (by assumption) ?_; (conv => arg 1; whnf)) | (refine brf (by assumption) ?_; (conv => arg 1; whnf)) | fail))
    exact finB rfl
  | true =>
  have hr : (⟨s.fl, s.ca, s.st, s.sp, s.so, s.op, s.wa, s.cl, s.nu, s.ag, s.si, s.bu, s.pe⟩ : Site).right = true := hr
  cases g1 : decide (fl < 0) with
  | true =>
    (conv => arg 1; whnf); (repeat' (first | (refine brt (by assumption) ?_; (conv => arg 1; whnf)) | (refine brf (by assumption) ?_; (conv => arg 1; whnf)) | fail))
    exact finB rfl
  | false =>
  cases g2 : decide (s.fl ≤ fl) with
  | true =>
    (conv => arg 1; whnf); (repeat' (first | (refine brt (by assumption) ?_; (conv => arg 1; whnf)) | (refine brf (by assumption) ?_; (conv => arg 1; whnf)) | fail))
    exact finB rfl
  | false =>
  cases g3 : decide (a < 0) with
  | true =>
    (conv => arg 1; whnf); (repeat' (first | (refine brt (by assumption) ?_; (conv => arg 1; whnf)) | (refine brf (by assumption) ?_; (conv => arg 1; whnf)) | fail))
    exact finB rfl
  | false =>
  cases g4 : decide (s.fl ≤ a) with
  | true =>
    (conv => arg 1; whnf); (repeat' (first | (refine brt (by assumption) ?_; (conv => arg 1; whnf)) | (refine brf (by assumption) ?_; (conv => arg 1; whnf)) | fail))
    exact finB rfl
  | false =>
  have k1 := of_decide_eq_false g1
  have k2 := of_decide_eq_false g2
  have k3 := of_decide_eq_false g3
  have k4 := of_decide_eq_false g4
  have hr' : s.right = true := hr
  have hb := Site.right_bd hr'
  have hoc := openC_right hr' (show 0 ≤ a by omega) (show a < s.fl by omega)
  obtain ⟨N, hN⟩ : ∃ N : Nat, (N : Int) = s.ca := ⟨s.ca.toNat, by omega⟩
  obtain ⟨c1, hc1⟩ : ∃ c, c = (openC a).step s ⟨false, -1⟩ false := ⟨_, rfl⟩
  (conv => arg 1; whnf); (repeat' (first | (refine brt (by assumption) ?_; (conv => arg 1; whnf)) | (refine brf (by assumption) ?_; (conv => arg 1; whnf)) | fail))
  refine joinIn (fun _ : Unit => True) (fun _ => frm 126 [(1, i64 fl), (2, i64 a), (3, i64 gone), (4, i64 age), (5, .p 0 0), (11, row eCr (List.replicate N (openC a)))]) (fun _ => [siteB s]) ?_ (fun _ _ => ?_)
  · (conv => arg 1; whnf); (repeat' (first | (refine brt (by assumption) ?_; (conv => arg 1; whnf)) | (refine brf (by assumption) ?_; (conv => arg 1; whnf)) | fail))
    refine loopIn (fun k : Nat => k ≤ N) (fun k => frm 126 [(1, i64 fl), (2, i64 a), (3, i64 gone), (4, i64 age), (5, .p 0 0), (11, .s 1 8 0 k), (12, i64 k)]) (fun k => [siteB s, tabl eCr (List.replicate k (openC a))]) (fun k => N - k) 0 [0, 1] (Nat.zero_le _) (by decide) ?_ ?_ rfl fun k hk => ?_
    · (repeat' (first | exact True.intro | exact Fit.dead _ | exact Fit.v _ | exact .p rfl | exact .s rfl | exact .i fun _ _ => rfl | exact .p rfl | exact .s rfl | refine And.intro ?_ ?_))
    · exact ⟨⟨_, rfl, .lit (by (repeat' (first | exact True.intro | exact Fit.dead _ | exact Fit.v _ | exact .p rfl | exact .s rfl | exact .i fun _ _ => rfl | refine And.intro ?_ ?_)))⟩, ⟨_, rfl, fit_tab (e := eCr) (RowIs.nil eCr _)⟩, trivial⟩
    have hk : k ≤ N := hk
    (conv => arg 1; whnf)
    refine br (fun h3 => ?_) (fun h3 => ?_)
    · have hlt : (k : Int) < s.ca := of_decide_eq_true h3
      (conv => arg 1; whnf); (repeat' (first | (refine brt (by assumption) ?_; (conv => arg 1; whnf)) | (refine brf (by assumption) ?_; (conv => arg 1; whnf)) | fail))
      (refine brt ?_ ?_; (focus (exact and2 (Nat.ble_eq_true_of_le (by simp)) (and2 rfl (Nat.ble_eq_true_of_le (by omega))); done)); (conv => arg 1; whnf))
      refine again (k + 1) [0, 3] (by show k + 1 ≤ N; omega) (by show N - (k + 1) < N - k; omega) (by decide) ?_ ?_ rfl
      · (repeat' (first | exact True.intro | exact Fit.dead _ | exact Fit.v _ | exact .p rfl | exact .s rfl | exact .i fun _ _ => rfl | exact .p rfl | exact fit_s rfl rfl rfl | exact Fit.v' (congrArg (Value.int .i64) (knxt k (by omega)).symm) | refine And.intro ?_ ?_))
      · rw [List.replicate_succ']
        exact ⟨⟨_, rfl, .lit (by (repeat' (first | exact True.intro | exact Fit.dead _ | exact Fit.v _ | exact .p rfl | exact .s rfl | exact .i fun _ _ => rfl | refine And.intro ?_ ?_)))⟩, ⟨_, rfl, fit_tab (e := eCr) (RowIs.snoc eCr (RowIs.all eCr (⟨(List.length_replicate).symm, fun _ _ => rfl⟩ : RowIs eCr k _ (List.replicate k (openC a)))) rfl)⟩, trivial⟩
    · have hkN : k = N := by have : ¬ (k : Int) < s.ca := of_decide_eq_false h3; omega
      rw [hkN]
      (conv => arg 1; whnf); (repeat' (first | (refine brt (by assumption) ?_; (conv => arg 1; whnf)) | (refine brf (by assumption) ?_; (conv => arg 1; whnf)) | fail))
      refine leave ?_
      show tr _
      (conv => arg 1; whnf); (repeat' (first | (refine brt (by assumption) ?_; (conv => arg 1; whnf)) | (refine brf (by assumption) ?_; (conv => arg 1; whnf)) | fail))
      refine joinTo () [0] trivial (by decide) ?_ ⟨⟨_, rfl, .lit (by (repeat' (first | exact True.intro | exact Fit.dead _ | exact Fit.v _ | exact .p rfl | exact .s rfl | exact .i fun _ _ => rfl | refine And.intro ?_ ?_)))⟩, trivial⟩ rfl
      (repeat' (first | exact True.intro | exact Fit.dead _ | exact Fit.v _ | exact .p rfl | exact .s rfl | exact .i fun _ _ => rfl | exact .p rfl | exact fit_fz (e := eCr) rfl rfl (by decide) (by simp) (by simpa using RowIs.row eCr (List.replicate N (openC a))) | refine And.intro ?_ ?_))
  (conv => arg 1; whnf); (repeat' (first | (refine brt (by assumption) ?_; (conv => arg 1; whnf)) | (refine brf (by assumption) ?_; (conv => arg 1; whnf)) | fail))
  refine joinIn (fun _ : Unit => True) (fun _ => frm 126 [(1, i64 fl), (2, i64 a), (3, i64 gone), (4, i64 age), (5, .p 0 0), (11, row eCr (List.replicate N (openC a))), (13, row eCr (List.replicate N c1))]) (fun _ => [siteB s]) ?_ (fun _ _ => ?_)
  · (conv => arg 1; whnf); (repeat' (first | (refine brt (by assumption) ?_; (conv => arg 1; whnf)) | (refine brf (by assumption) ?_; (conv => arg 1; whnf)) | fail))
    refine loopIn (fun k : Nat => k ≤ N) (fun k => frm 126 [(1, i64 fl), (2, i64 a), (3, i64 gone), (4, i64 age), (5, .p 0 0), (11, row eCr (List.replicate N (openC a))), (13, .s 1 8 0 k), (60, row eCr (List.replicate N (openC a))), (61, i64 ((List.replicate N (openC a)).length : Nat)), (62, i64 k)]) (fun k => [siteB s, tabl eCr (List.replicate k c1)]) (fun k => N - k) 0 [0, 1] (Nat.zero_le _) (by decide) ?_ ?_ rfl fun k hk => ?_
    · (repeat' (first | exact True.intro | exact Fit.dead _ | exact Fit.v _ | exact .p rfl | exact .s rfl | exact .i fun _ _ => rfl | exact .p rfl | exact .s rfl | exact row_self eCr _ | refine And.intro ?_ ?_))
    · exact ⟨⟨_, rfl, .lit (by (repeat' (first | exact True.intro | exact Fit.dead _ | exact Fit.v _ | exact .p rfl | exact .s rfl | exact .i fun _ _ => rfl | refine And.intro ?_ ?_)))⟩, ⟨_, rfl, fit_tab (e := eCr) (RowIs.nil eCr _)⟩, trivial⟩
    have hk : k ≤ N := hk
    have lN : (List.replicate N (openC a)).length = N := List.length_replicate
    (conv => arg 1; whnf)
    refine br (fun h3 => ?_) (fun h3 => ?_)
    · have hlt : k < N := by have := of_decide_eq_true h3; omega
      have e1 : (decide (0 ≤ (k : Int)) && decide ((k : Int) < ((List.replicate N (openC a)).length : Int))) = true := by simp only [Bool.and_eq_true, decide_eq_true_eq]; omega
      have hx : (List.replicate N (openC a)).getD (k : Int).toNat eCr.dflt = openC a := getRep (by omega)
      obtain ⟨x, hxx⟩ : ∃ x, x = (List.replicate N (openC a)).getD (k : Int).toNat eCr.dflt := ⟨_, rfl⟩
      have hxr : x.right s = true := by rw [hxx, hx]; exact hoc
      (conv => arg 1; whnf); (repeat' (first | (refine brt (by assumption) ?_; (conv => arg 1; whnf)) | (refine brf (by assumption) ?_; (conv => arg 1; whnf)) | fail))
      rw [← hxx]
      (refine brt ?_ ?_; (focus (exact hxr; done)); (conv => arg 1; whnf))
      (conv => arg 1; whnf); (repeat' (first | (refine brt (by assumption) ?_; (conv => arg 1; whnf)) | (refine brf (by assumption) ?_; (conv => arg 1; whnf)) | fail))
      (refine brt ?_ ?_; (focus (exact and2 (Nat.ble_eq_true_of_le (by simp)) (and2 rfl (Nat.ble_eq_true_of_le (by omega))); done)); (conv => arg 1; whnf))
      (conv => arg 1; whnf); (repeat' (first | (refine brt (by assumption) ?_; (conv => arg 1; whnf)) | (refine brf (by assumption) ?_; (conv => arg 1; whnf)) | fail))
      refine again (k + 1) [0, 4] (by show k + 1 ≤ N; omega) (by show N - (k + 1) < N - k; omega) (by decide) ?_ ?_ rfl
      · (repeat' (first | exact True.intro | exact Fit.dead _ | exact Fit.v _ | exact .p rfl | exact .s rfl | exact .i fun _ _ => rfl | exact .p rfl | exact row_self eCr _ | exact fit_s rfl rfl rfl | exact Fit.v' (congrArg (Value.int .i64) (knxt k (by omega)).symm) | refine And.intro ?_ ?_))
      · rw [List.replicate_succ']
        exact ⟨⟨_, rfl, .lit (by (repeat' (first | exact True.intro | exact Fit.dead _ | exact Fit.v _ | exact .p rfl | exact .s rfl | exact .i fun _ _ => rfl | refine And.intro ?_ ?_)))⟩, ⟨_, rfl, fit_tab (e := eCr) (RowIs.snoc eCr (RowIs.all eCr (⟨(List.length_replicate).symm, fun _ _ => rfl⟩ : RowIs eCr k _ (List.replicate k c1))) (by
          show eCr.enc (x.step s ⟨false, -1⟩ false) = eCr.enc c1
          rw [hxx, hx, hc1]))⟩, trivial⟩
    · have hkN : k = N := by have : ¬ (k : Int) < ((List.replicate N (openC a)).length : Int) := of_decide_eq_false h3; omega
      rw [hkN]
      (conv => arg 1; whnf); (repeat' (first | (refine brt (by assumption) ?_; (conv => arg 1; whnf)) | (refine brf (by assumption) ?_; (conv => arg 1; whnf)) | fail))
      refine leave ?_
      show tr _
      (conv => arg 1; whnf); (repeat' (first | (refine brt (by assumption) ?_; (conv => arg 1; whnf)) | (refine brf (by assumption) ?_; (conv => arg 1; whnf)) | fail))
      refine joinTo () [0] trivial (by decide) ?_ ⟨⟨_, rfl, .lit (by (repeat' (first | exact True.intro | exact Fit.dead _ | exact Fit.v _ | exact .p rfl | exact .s rfl | exact .i fun _ _ => rfl | refine And.intro ?_ ?_)))⟩, trivial⟩ rfl
      (repeat' (first | exact True.intro | exact Fit.dead _ | exact Fit.v _ | exact .p rfl | exact .s rfl | exact .i fun _ _ => rfl | exact .p rfl | exact row_self eCr _ | exact fit_fz (e := eCr) rfl rfl (by decide) (by simp) (by simpa using RowIs.row eCr (List.replicate N c1)) | refine And.intro ?_ ?_))
  · obtain ⟨ag, hag⟩ : ∃ x, x = bits .and .i64 age 255 := ⟨_, rfl⟩
    have hag' : 0 ≤ ag ∧ ag ≤ 255 := by rw [hag, and255]; omega
    obtain ⟨up, hup⟩ : ∃ x, x = decide (bits .and .i64 gone 1 = 1) := ⟨_, rfl⟩
    (conv => arg 1; whnf); (repeat' (first | (refine brt (by assumption) ?_; (conv => arg 1; whnf)) | (refine brf (by assumption) ?_; (conv => arg 1; whnf)) | fail))
    rw [← hag, ← hup]
    have h1c : 1 ≤ s.ca := by omega
    have h8c : s.ca ≤ 8 := by omega
    obtain ⟨A1, A2⟩ := tA (k := ⟨fl, -1, ag, up⟩) (o := ⟨false, -1⟩) (b := false) hN h1c h8c hoc rfl
    obtain ⟨B1, B2⟩ := tB (k := ⟨fl, -1, ag, up⟩) (k2 := ⟨fl, -1, IntKind.i64.wrap (ag + 1), up⟩) (o := ⟨false, -1⟩) (b := false) hN h1c h8c hoc rfl (by unfold sameK; simp) (by unfold sameK; simp) (by
      show IntKind.i64.wrap (ag + 1) = lim (lim ag + lim 1)
      rw [wi _ (by omega) (by omega)]
      unfold lim
      omega)
    obtain ⟨C1, C2⟩ := tC (k := ⟨fl, -1, ag, up⟩) (o := ⟨false, -1⟩) (b := false) hN h1c h8c hoc rfl
    rw [← hc1] at A1 A2 B1 B2 C1 C2
    have hl1 : (List.replicate N (openC a)).length < 1000 := by simp; omega
    have hl2 : (List.replicate N c1).length < 1000 := by simp; omega
    have r1 := isRow_row eCr (l := List.replicate N (openC a)) (by omega)
    have r2 := isRow_row eCr (l := List.replicate N c1) (by omega)
    cases hfa : decide (fl = a) with
    | true =>
      have ea : decide (a = fl) = true := by rw [← hfa]; exact decide_eq_decide.2 eq_comm
      rw [show decide (a = (⟨fl, -1, ag, up⟩ : Cll).fl) = true from ea] at A1
      (conv => arg 1; whnf); (repeat' (first | (refine brt (by assumption) ?_; (conv => arg 1; whnf)) | (refine brf (by assumption) ?_; (conv => arg 1; whnf)) | fail))
      cases hg1 : decide (ag = 1) with
      | true =>
        rw [show decide ((⟨fl, -1, ag, up⟩ : Cll).ag = 1) = true from hg1] at C1
        (conv => arg 1; whnf); (repeat' (first | (refine brt (by assumption) ?_; (conv => arg 1; whnf)) | (refine brf (by assumption) ?_; (conv => arg 1; whnf)) | fail))
        conv in (Prod.snd (9, freshCtr tickG) _ _) => tactic => (apply tickAt (L := []); rfl; rfl; (rw [rows_row, rows_row, rows1 (c := ⟨fl, -1, ag, up⟩)]; exact A1; rfl))
        (conv => arg 1; whnf); (repeat' (first | (refine brt (by assumption) ?_; (conv => arg 1; whnf)) | (refine brf (by assumption) ?_; (conv => arg 1; whnf)) | fail))
        (refine brt ?_ ?_; (focus (exact and2 rfl (and2 (and2 (and2 (and2 (and2 (and2 (by rw [rows_row, rows_row, rows1 (c := ⟨fl, -1, ag, up⟩)]; exact A2; rfl) rfl) rfl) rfl) r2) r1) rfl); done)); (conv => arg 1; whnf))
        conv in (Prod.snd (9, freshCtr tickG) _ _) => tactic => (apply tickAt (L := []); rfl; rfl; (rw [rows_row, rows_row, rows1 (c := ⟨fl, -1, ag, up⟩), rows1 (c := ⟨fl, -1, IntKind.i64.wrap (ag + 1), up⟩)]; exact B1; rfl; rfl))
        (conv => arg 1; whnf); (repeat' (first | (refine brt (by assumption) ?_; (conv => arg 1; whnf)) | (refine brf (by assumption) ?_; (conv => arg 1; whnf)) | fail))
        (refine brt ?_ ?_; (focus (exact and2 rfl (and2 (and2 (and2 (and2 (and2 (and2 (by rw [rows_row, rows_row, rows1 (c := ⟨fl, -1, ag, up⟩), rows1 (c := ⟨fl, -1, IntKind.i64.wrap (ag + 1), up⟩)]; exact B2; rfl; rfl) rfl) rfl) rfl) r2) r1) rfl); done)); (conv => arg 1; whnf))
        conv in (Prod.snd (9, freshCtr tickG) _ _) => tactic => (apply tickAt (L := []); rfl; rfl; (rw [rows_row, rows_row, rows1 (c := ⟨fl, -1, ag, up⟩)]; exact C1; rfl))
        (conv => arg 1; whnf); (repeat' (first | (refine brt (by assumption) ?_; (conv => arg 1; whnf)) | (refine brf (by assumption) ?_; (conv => arg 1; whnf)) | fail))
        (refine brt ?_ ?_; (focus (exact and2 rfl (and2 (and2 (and2 (and2 (and2 (and2 (by rw [rows_row, rows_row, rows1 (c := ⟨fl, -1, ag, up⟩)]; exact C2; rfl) rfl) rfl) rfl) r2) r1) rfl); done)); (conv => arg 1; whnf))
        exact finB rfl
      | false =>
        rw [show decide ((⟨fl, -1, ag, up⟩ : Cll).ag = 1) = false from hg1] at C1
        (conv => arg 1; whnf); (repeat' (first | (refine brt (by assumption) ?_; (conv => arg 1; whnf)) | (refine brf (by assumption) ?_; (conv => arg 1; whnf)) | fail))
        conv in (Prod.snd (9, freshCtr tickG) _ _) => tactic => (apply tickAt (L := []); rfl; rfl; (rw [rows_row, rows_row, rows1 (c := ⟨fl, -1, ag, up⟩)]; exact A1; rfl))
        (conv => arg 1; whnf); (repeat' (first | (refine brt (by assumption) ?_; (conv => arg 1; whnf)) | (refine brf (by assumption) ?_; (conv => arg 1; whnf)) | fail))
        (refine brt ?_ ?_; (focus (exact and2 rfl (and2 (and2 (and2 (and2 (and2 (and2 (by rw [rows_row, rows_row, rows1 (c := ⟨fl, -1, ag, up⟩)]; exact A2; rfl) rfl) rfl) rfl) r2) r1) rfl); done)); (conv => arg 1; whnf))
        conv in (Prod.snd (9, freshCtr tickG) _ _) => tactic => (apply tickAt (L := []); rfl; rfl; (rw [rows_row, rows_row, rows1 (c := ⟨fl, -1, ag, up⟩), rows1 (c := ⟨fl, -1, IntKind.i64.wrap (ag + 1), up⟩)]; exact B1; rfl; rfl))
        (conv => arg 1; whnf); (repeat' (first | (refine brt (by assumption) ?_; (conv => arg 1; whnf)) | (refine brf (by assumption) ?_; (conv => arg 1; whnf)) | fail))
        (refine brt ?_ ?_; (focus (exact and2 rfl (and2 (and2 (and2 (and2 (and2 (and2 (by rw [rows_row, rows_row, rows1 (c := ⟨fl, -1, ag, up⟩), rows1 (c := ⟨fl, -1, IntKind.i64.wrap (ag + 1), up⟩)]; exact B2; rfl; rfl) rfl) rfl) rfl) r2) r1) rfl); done)); (conv => arg 1; whnf))
        conv in (Prod.snd (9, freshCtr tickG) _ _) => tactic => (apply tickAt (L := [4]); rfl; rfl; (rw [rows_row, rows_row, rows1 (c := ⟨fl, -1, ag, up⟩)]; exact C1; rfl))
        (conv => arg 1; whnf); (repeat' (first | (refine brt (by assumption) ?_; (conv => arg 1; whnf)) | (refine brf (by assumption) ?_; (conv => arg 1; whnf)) | fail))
        (refine brt ?_ ?_; (focus (exact and2 rfl (and2 (and2 (and2 (and2 (and2 (and2 (by rw [rows_row, rows_row, rows1 (c := ⟨fl, -1, ag, up⟩)]; exact C2; rfl) rfl) rfl) rfl) r2) r1) rfl); done)); (conv => arg 1; whnf))
        exact finB rfl
    | false =>
      have ea : decide (a = fl) = false := by rw [← hfa]; exact decide_eq_decide.2 eq_comm
      rw [show decide (a = (⟨fl, -1, ag, up⟩ : Cll).fl) = false from ea] at A1
      (conv => arg 1; whnf); (repeat' (first | (refine brt (by assumption) ?_; (conv => arg 1; whnf)) | (refine brf (by assumption) ?_; (conv => arg 1; whnf)) | fail))
      cases hg1 : decide (ag = 1) with
      | true =>
        rw [show decide ((⟨fl, -1, ag, up⟩ : Cll).ag = 1) = true from hg1] at C1
        (conv => arg 1; whnf); (repeat' (first | (refine brt (by assumption) ?_; (conv => arg 1; whnf)) | (refine brf (by assumption) ?_; (conv => arg 1; whnf)) | fail))
        conv in (Prod.snd (9, freshCtr tickG) _ _) => tactic => (apply tickAt (L := [2]); rfl; rfl; (rw [rows_row, rows_row, rows1 (c := ⟨fl, -1, ag, up⟩)]; exact A1; rfl))
        (conv => arg 1; whnf); (repeat' (first | (refine brt (by assumption) ?_; (conv => arg 1; whnf)) | (refine brf (by assumption) ?_; (conv => arg 1; whnf)) | fail))
        (refine brt ?_ ?_; (focus (exact and2 rfl (and2 (and2 (and2 (and2 (and2 (and2 (by rw [rows_row, rows_row, rows1 (c := ⟨fl, -1, ag, up⟩)]; exact A2; rfl) rfl) rfl) rfl) r2) r1) rfl); done)); (conv => arg 1; whnf))
        conv in (Prod.snd (9, freshCtr tickG) _ _) => tactic => (apply tickAt (L := []); rfl; rfl; (rw [rows_row, rows_row, rows1 (c := ⟨fl, -1, ag, up⟩), rows1 (c := ⟨fl, -1, IntKind.i64.wrap (ag + 1), up⟩)]; exact B1; rfl; rfl))
        (conv => arg 1; whnf); (repeat' (first | (refine brt (by assumption) ?_; (conv => arg 1; whnf)) | (refine brf (by assumption) ?_; (conv => arg 1; whnf)) | fail))
        (refine brt ?_ ?_; (focus (exact and2 rfl (and2 (and2 (and2 (and2 (and2 (and2 (by rw [rows_row, rows_row, rows1 (c := ⟨fl, -1, ag, up⟩), rows1 (c := ⟨fl, -1, IntKind.i64.wrap (ag + 1), up⟩)]; exact B2; rfl; rfl) rfl) rfl) rfl) r2) r1) rfl); done)); (conv => arg 1; whnf))
        conv in (Prod.snd (9, freshCtr tickG) _ _) => tactic => (apply tickAt (L := []); rfl; rfl; (rw [rows_row, rows_row, rows1 (c := ⟨fl, -1, ag, up⟩)]; exact C1; rfl))
        (conv => arg 1; whnf); (repeat' (first | (refine brt (by assumption) ?_; (conv => arg 1; whnf)) | (refine brf (by assumption) ?_; (conv => arg 1; whnf)) | fail))
        (refine brt ?_ ?_; (focus (exact and2 rfl (and2 (and2 (and2 (and2 (and2 (and2 (by rw [rows_row, rows_row, rows1 (c := ⟨fl, -1, ag, up⟩)]; exact C2; rfl) rfl) rfl) rfl) r2) r1) rfl); done)); (conv => arg 1; whnf))
        exact finB rfl
      | false =>
        rw [show decide ((⟨fl, -1, ag, up⟩ : Cll).ag = 1) = false from hg1] at C1
        (conv => arg 1; whnf); (repeat' (first | (refine brt (by assumption) ?_; (conv => arg 1; whnf)) | (refine brf (by assumption) ?_; (conv => arg 1; whnf)) | fail))
        conv in (Prod.snd (9, freshCtr tickG) _ _) => tactic => (apply tickAt (L := [2]); rfl; rfl; (rw [rows_row, rows_row, rows1 (c := ⟨fl, -1, ag, up⟩)]; exact A1; rfl))
        (conv => arg 1; whnf); (repeat' (first | (refine brt (by assumption) ?_; (conv => arg 1; whnf)) | (refine brf (by assumption) ?_; (conv => arg 1; whnf)) | fail))
        (refine brt ?_ ?_; (focus (exact and2 rfl (and2 (and2 (and2 (and2 (and2 (and2 (by rw [rows_row, rows_row, rows1 (c := ⟨fl, -1, ag, up⟩)]; exact A2; rfl) rfl) rfl) rfl) r2) r1) rfl); done)); (conv => arg 1; whnf))
        conv in (Prod.snd (9, freshCtr tickG) _ _) => tactic => (apply tickAt (L := []); rfl; rfl; (rw [rows_row, rows_row, rows1 (c := ⟨fl, -1, ag, up⟩), rows1 (c := ⟨fl, -1, IntKind.i64.wrap (ag + 1), up⟩)]; exact B1; rfl; rfl))
        (conv => arg 1; whnf); (repeat' (first | (refine brt (by assumption) ?_; (conv => arg 1; whnf)) | (refine brf (by assumption) ?_; (conv => arg 1; whnf)) | fail))
        (refine brt ?_ ?_; (focus (exact and2 rfl (and2 (and2 (and2 (and2 (and2 (and2 (by rw [rows_row, rows_row, rows1 (c := ⟨fl, -1, ag, up⟩), rows1 (c := ⟨fl, -1, IntKind.i64.wrap (ag + 1), up⟩)]; exact B2; rfl; rfl) rfl) rfl) rfl) r2) r1) rfl); done)); (conv => arg 1; whnf))
        conv in (Prod.snd (9, freshCtr tickG) _ _) => tactic => (apply tickAt (L := [4]); rfl; rfl; (rw [rows_row, rows_row, rows1 (c := ⟨fl, -1, ag, up⟩)]; exact C1; rfl))
        (conv => arg 1; whnf); (repeat' (first | (refine brt (by assumption) ?_; (conv => arg 1; whnf)) | (refine brf (by assumption) ?_; (conv => arg 1; whnf)) | fail))
        (refine brt ?_ ?_; (focus (exact and2 rfl (and2 (and2 (and2 (and2 (and2 (and2 (by rw [rows_row, rows_row, rows1 (c := ⟨fl, -1, ag, up⟩)]; exact C2; rfl) rfl) rfl) rfl) r2) r1) rfl); done)); (conv => arg 1; whnf))
        exact finB rfl
end Go.Proofs.Ythdeehkmlaejfaa.E
