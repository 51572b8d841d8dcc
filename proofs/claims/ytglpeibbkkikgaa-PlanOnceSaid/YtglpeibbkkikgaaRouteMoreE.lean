/- The law RouteMore, by the engine. -/
import Derived.Test.YtglpeibbkkikgaaRouteAddE
import Derived.Test.YtglpeibbkkikgaaBoundLawE
namespace Go.Proofs.Ytglpeibbkkikgaa.E
open Go NumMath
set_option linter.unusedSimpArgs false
set_option linter.unusedVariables false
set_option maxRecDepth 100000
set_option maxHeartbeats 8000000
noncomputable def XRM : Cx := (((((((XN0.add 18 .pure (pureCtr (fn0 (giv true (boo true))))).add 13 (.foot reads2) (freshCtr greatG)).add 17 (.foot reads2) (freshCtr feasG)).add 19 (.foot reads2) (freshCtr waitsG)).add 20 (.foot reads2) (freshCtr costG)).tabs.join 200011).join 200007).join 200003
theorem XRM_ok : CxOk Try.prog XRM := (((((((XN0_ok.pure speaks10_ok).fresh great_ok).fresh rfeas_ok).fresh waits_ok).fresh cost_ok).tabs.join 200011 rfl).join 200007 rfl).join 200003 rfl
theorem fit_fz {α : Type} {e : Elt α} {ρ : List Nat} {σ : St} {m sz o n n' : Nat} {g : Nat → List AV} {l : List α} (h : σ[m]? = some (.tab sz n' g)) (hs : sz = e.sz) (hm : m ∉ ρ) (hn : o + n ≤ n') (hR : RowIs e n (fun k => g (o + k)) l) : Fit ρ σ (row e l) (.s m sz o n) := by
  subst hs
  have hl := hR.len
  subst hl
  exact .fz h hm hn fun k hk => (hR.get k hk).symm
theorem fit_vt {ρ : List Nat} {σ : St} {sz n0 n : Nat} {g0 g : Nat → List AV} {rs : List Nat} (hn : n0 = n) (h : ∀ k, k < n → FitL ρ σ (g0 k) (g k)) (hp : ∀ k, k < n → ∀ u ∈ g0 k, pureCell u = true) : FitB ρ σ (.tab sz n0 g0) (.tabv sz n g rs) := by subst hn; exact .vt h hp
theorem fit_putv {ρ : List Nat} {σ : St} {n0 n c' c : Nat} {g0 g : Nat → List AV} {u : AV} {rs : List Nat} (hn : n0 = n) (hc : c' = c) (h1 : (g c).length = 1) (hat : FitL ρ σ (g0 c) [u]) (hoth : ∀ i, i < n → i ≠ c → FitL ρ σ (g0 i) (g i)) (hp : ∀ k, k < n → ∀ u ∈ g0 k, pureCell u = true) :
    FitB ρ σ (.tab 1 n0 g0) (.tabv 1 n (fun i => if i = c' then putCells (g i) 0 [u] else g i) rs) := by
  subst hc
  refine fit_vt hn (fun i hi => ?_) hp
  by_cases e : i = c'
  · subst e
    rw [if_pos rfl]
    have : putCells (g i) 0 [u] = [u] := by
      unfold putCells
      rw [List.take_zero, List.nil_append, List.drop_eq_nil_of_le (by simp [h1])]; rfl
    rw [this]; exact hat
  · rw [if_neg e]; exact hoth i hi e
theorem all2 {f : AV → Bool} {a b : AV} (ha : f a = true) (hb : f b = true) : [a, b].all f = true := by simp only [List.all_cons, List.all_nil, ha, hb, Bool.and_true]
theorem rowAppE {α : Type} {e : Elt α} (A : List α) (b : α) {g0 g2 : Nat → List AV} (h : g2 0 = e.enc b) : RowIs e (0 + A.length + 1) (fun k => joined (0 + A.length) (fun k => joined 0 g0 (fun k => e.enc (A.getD k e.dflt)) (0 + k)) g2 (0 + k)) (A ++ [b]) := by
  refine RowIs.all e (RowIs.snoc e ?_ h)
  have := RowIs.joined (g1 := g0) e (RowIs.nil e g0) (RowIs.row e A)
  exact RowIs.all e this
theorem RouteMore (us : List AV) (h : areArgs tt [27, 29, 3, 3, 3] us) : ∃ us', FitL [] [] us' us ∧ runF XRM Try.f8 us' [] (boo true) [] := by
  obtain ⟨_, _, rfl, h1, _, _, rfl, h2, _, _, rfl, h3, _, _, rfl, h4, _, _, rfl, h5, rfl⟩ := h
  obtain ⟨p, rfl, hp1, hp2⟩ := snap_arg h1
  obtain ⟨pl, hf2, hp3, hp4⟩ := plan_arg h2
  obtain ⟨fl, rfl, _, _⟩ := int_arg h3
  obtain ⟨car, rfl, _, _⟩ := int_arg h4
  obtain ⟨at0, rfl, _, _⟩ := int_arg h5
  refine ⟨[p.av, rrow eI pl, i64 fl, i64 car, i64 at0], ⟨Fit.al (by repeat' (first | exact True.intro | exact Fit.v _ | exact row_self eRd _ | exact row_self eWn _ | refine And.intro ?_ ?_)), hf2, .v _, .v _, .v _, trivial⟩, ?_⟩
  clear h1 h2 h3 h4 h5 hf2
  have fe : feasB p.rd (rowsRR eI pl.length fun k => [row eI (pl.getD k [])]) = feasB p pl := by rw [p.rd_eq, rowsRR_row]
  unfold runF
  (conv => arg 1; whnf); (repeat' (first | (refine brt (by assumption) ?_; (conv => arg 1; whnf)) | (refine brf (by assumption) ?_; (conv => arg 1; whnf)) | fail))
  obtain ⟨out, hout⟩ : ∃ o : Bool, o = (greatB p pl || (!(feasB p pl) || (decide (fl < 0) || (decide (p.s.fl ≤ fl) || decide (100 < p.ws.length))))) := ⟨_, rfl⟩
  refine joinIn (fun _ : Unit => True) (fun _ => frm 186 [(1, rrow eI pl), (2, i64 fl), (3, i64 car), (4, i64 at0), (5, .p 0 0), (10, boo false), (52, boo out)]) (fun _ => [.lit (snapC p)]) ?_ (fun _ _ => ?_)
  · (conv => arg 1; whnf); (repeat' (first | (refine brt (by assumption) ?_; (conv => arg 1; whnf)) | (refine brf (by assumption) ?_; (conv => arg 1; whnf)) | fail))
    (refine brt ?_ ?_; (focus (exact and2 rfl (and2 (and2 rfl (planRows hp3 hp4)) (snapRows hp1 hp2)); done)); (conv => arg 1; whnf))
    rw [show greatB p.rd (rowsRR eI pl.length fun k => [row eI (pl.getD k [])]) = greatB p pl by rw [p.rd_eq, rowsRR_row]]
    cases hG : greatB p pl with
    | true =>
      rw [hG] at hout
      (conv => arg 1; whnf); (repeat' (first | (refine brt (by assumption) ?_; (conv => arg 1; whnf)) | (refine brf (by assumption) ?_; (conv => arg 1; whnf)) | fail))
      refine joinTo () [0] trivial (by decide) ?_ ?_ rfl
      · repeat' (first | exact True.intro | exact Fit.dead _ | exact Fit.v _ | exact .p rfl | exact .i fun _ _ => rfl | exact Fit.v' (congrArg Value.bool (hout.trans (by rfl))) | refine And.intro ?_ ?_)
      · exact ⟨⟨_, rfl, .lit (by repeat' (first | exact True.intro | exact Fit.v _ | exact row_self eRd _ | exact row_self eWn _ | refine And.intro ?_ ?_))⟩, trivial⟩
    | false =>
    rw [hG] at hout
    obtain ⟨g1, g2, g3, g4⟩ := great_no hG
    have hls : ∀ l ∈ pl, l.length ≤ 1000 := fun l hl => by have := g4 l hl; omega
    have hls' : (pl.all fun l => decide (l.length ≤ 1000)) = true := List.all_eq_true.2 fun l hl => decide_eq_true (hls l hl)
    have C1 := and2 (and2 (a := (rowsRR eI pl.length fun k => [row eI (pl.getD k [])]).all fun l => decide (l.length ≤ 1000)) (by rw [rowsRR_row]; exact hls') (planRows hp3 hp4)) (snapRows hp1 hp2)
    (conv => arg 1; whnf); (repeat' (first | (refine brt (by assumption) ?_; (conv => arg 1; whnf)) | (refine brf (by assumption) ?_; (conv => arg 1; whnf)) | fail))
    rw [fe]
    cases hF : feasB p pl with
    | false =>
      rw [hF] at hout
      (conv => arg 1; whnf); (repeat' (first | (refine brt (by assumption) ?_; (conv => arg 1; whnf)) | (refine brf (by assumption) ?_; (conv => arg 1; whnf)) | fail))
      refine joinTo () [0] trivial (by decide) ?_ ?_ rfl
      · repeat' (first | exact True.intro | exact Fit.dead _ | exact Fit.v _ | exact .p rfl | exact .i fun _ _ => rfl | exact Fit.v' (congrArg Value.bool (hout.trans (by rfl))) | refine And.intro ?_ ?_)
      · exact ⟨⟨_, rfl, .lit (by repeat' (first | exact True.intro | exact Fit.v _ | exact row_self eRd _ | exact row_self eWn _ | refine And.intro ?_ ?_))⟩, trivial⟩
    | true =>
    rw [hF] at hout
    cases hL : decide (fl < 0) with
    | true =>
      rw [hL] at hout
      (conv => arg 1; whnf); (repeat' (first | (refine brt (by assumption) ?_; (conv => arg 1; whnf)) | (refine brf (by assumption) ?_; (conv => arg 1; whnf)) | fail))
      refine joinTo () [0] trivial (by decide) ?_ ?_ rfl
      · repeat' (first | exact True.intro | exact Fit.dead _ | exact Fit.v _ | exact .p rfl | exact .i fun _ _ => rfl | exact Fit.v' (congrArg Value.bool (hout.trans (by rfl))) | refine And.intro ?_ ?_)
      · exact ⟨⟨_, rfl, .lit (by repeat' (first | exact True.intro | exact Fit.v _ | exact row_self eRd _ | exact row_self eWn _ | refine And.intro ?_ ?_))⟩, trivial⟩
    | false =>
    rw [hL] at hout
    cases hM : decide (p.s.fl ≤ fl) with
    | true =>
      rw [hM] at hout
      (conv => arg 1; whnf); (repeat' (first | (refine brt (by assumption) ?_; (conv => arg 1; whnf)) | (refine brf (by assumption) ?_; (conv => arg 1; whnf)) | fail))
      refine joinTo () [0] trivial (by decide) ?_ ?_ rfl
      · repeat' (first | exact True.intro | exact Fit.dead _ | exact Fit.v _ | exact .p rfl | exact .i fun _ _ => rfl | exact Fit.v' (congrArg Value.bool (hout.trans (by rfl))) | refine And.intro ?_ ?_)
      · exact ⟨⟨_, rfl, .lit (by repeat' (first | exact True.intro | exact Fit.v _ | exact row_self eRd _ | exact row_self eWn _ | refine And.intro ?_ ?_))⟩, trivial⟩
    | false =>
    rw [hM] at hout
    have hW : decide (100 < (p.ws.length : Int)) = decide (100 < p.ws.length) := by rw [decide_eq_decide]; omega
    (conv => arg 1; whnf); (repeat' (first | (refine brt (by assumption) ?_; (conv => arg 1; whnf)) | (refine brf (by assumption) ?_; (conv => arg 1; whnf)) | fail))
    refine joinTo () [0] trivial (by decide) ?_ ?_ rfl
    · repeat' (first | exact True.intro | exact Fit.dead _ | exact Fit.v _ | exact .p rfl | exact .i fun _ _ => rfl | exact Fit.v' (congrArg Value.bool (hout.trans (hW.symm.trans (by rfl)))) | refine And.intro ?_ ?_)
    · exact ⟨⟨_, rfl, .lit (by repeat' (first | exact True.intro | exact Fit.v _ | exact row_self eRd _ | exact row_self eWn _ | refine And.intro ?_ ?_))⟩, trivial⟩
  · cases out with
    | true =>
      (conv => arg 1; whnf); (repeat' (first | (refine brt (by assumption) ?_; (conv => arg 1; whnf)) | (refine brf (by assumption) ?_; (conv => arg 1; whnf)) | fail))
      exact finB rfl
    | false =>
    have hout := hout.symm
    simp only [Bool.or_eq_false_iff, Bool.not_eq_false', decide_eq_false_iff_not] at hout
    obtain ⟨hG, hfea, hL, hM, hW⟩ := hout
    obtain ⟨g1, g2, g3, g4⟩ := great_no hG
    obtain ⟨hr, hpl, hent, hone⟩ := feas_ent hfea
    obtain ⟨b1, b2, b3, b4, b5⟩ := Snap.right_bd hr
    have hb := Site.right_bd b1
    have hn0 : 0 < pl.length := by omega
    obtain ⟨c, hc, hcl⟩ := pick_lt car hn0
    have q0 : (!(decide ((pl.length : Int) = 0))) = true := by rw [decide_eq_false (by omega : ¬ (pl.length : Int) = 0)]; rfl
    (conv => arg 1; whnf); (repeat' (first | (refine brt (by assumption) ?_; (conv => arg 1; whnf)) | (refine brf (by assumption) ?_; (conv => arg 1; whnf)) | fail))
    rw [hc]
    have q1 : decide (0 ≤ (c : Int)) = true := decide_eq_true (by omega)
    (conv => arg 1; whnf); (repeat' (first | (refine brt (by assumption) ?_; (conv => arg 1; whnf)) | (refine brf (by assumption) ?_; (conv => arg 1; whnf)) | fail))
    refine joinIn (fun _ : Unit => True) (fun _ => frm 186 [(1, rrow eI pl), (4, i64 at0), (5, .p 0 0), (11, i64 c), (12, .p 1 0)]) (fun _ => [.lit (snapC p), .lit (snapC (moreS p fl c))]) ?_ (fun _ _ => ?_)
    · have e1 : ((0 + 0).ble 0 && (true && (0 + p.ws.length).ble 4294967295)) = true := by simp [Nat.ble_eq]; omega
      have e2 : ((0 + (0 + p.ws.length)).ble (0 + p.ws.length) && ((0 + 1).ble 1 && (0 + p.ws.length + 1).ble 4294967295)) = true := by simp [Nat.ble_eq]; omega
      (conv => arg 1; whnf); (repeat' (first | (refine brt (by assumption) ?_; (conv => arg 1; whnf)) | (refine brf (by assumption) ?_; (conv => arg 1; whnf)) | fail))
      refine joinTo () [0, 1] trivial (by decide) ?_ ?_ rfl
      · repeat' (first | exact True.intro | exact Fit.dead _ | exact Fit.v _ | exact .p rfl | exact .i fun _ _ => rfl | refine And.intro ?_ ?_)
      · refine ⟨⟨_, rfl, .lit (by repeat' (first | exact True.intro | exact Fit.v _ | exact row_self eRd _ | exact row_self eWn _ | refine And.intro ?_ ?_))⟩, ⟨_, rfl, .lit ?_⟩, trivial⟩
        repeat' (first | exact True.intro | exact Fit.v _ | exact row_self eRd _ | refine And.intro ?_ ?_)
        refine fit_fz (e := eWn) rfl rfl (by simp) (Nat.le_of_eq (Nat.zero_add _)) ?_
        refine rowAppE _ _ ?_
        show [i64 fl, i64 (IntKind.i64.wrap (1 * 2 ^ min (c : Int).toNat 64))] = [i64 fl, i64 (2 ^ c)]
        have h2 := pow_bd (show c ≤ 8 by omega)
        rw [Int.one_mul, Int.toNat_natCast, Nat.min_eq_left (by omega), i64w _ (by omega) (by omega)]
    · obtain ⟨w, hw⟩ : ∃ w, w = p.ws.length := ⟨_, rfl⟩
      obtain ⟨l, hl⟩ : ∃ l, l = pl.getD c [] := ⟨_, rfl⟩
      have ec : (c : Int).toNat = c := by omega
      have hl' : pl.getD (c : Int).toNat [] = l := by rw [ec, hl]
      have hll : l.length ≤ 200 := by rw [hl]; exact g4 _ (mem_getD hcl)
      have hw1 : IntKind.i64.wrap ((l.length : Int) + 1) = ((l.length + 1 : Nat) : Int) := nxt _ (by omega)
      obtain ⟨k, hk1, hkl⟩ := pick_lt at0 (n := l.length + 1) (by omega)
      have q3 : (!(decide (IntKind.i64.wrap (((pl.getD (c : Int).toNat []).length : Int) + 1) = 0))) = true := by rw [hl', hw1, decide_eq_false (by omega)]; rfl
      have q2 : (decide (0 ≤ (c : Int)) && decide ((c : Int) < (pl.length : Int))) = true := by simp only [Bool.and_eq_true, decide_eq_true_eq]; omega
      have e1 : ((0 + 0).ble 0 && (true && (0 + pl.length).ble 4294967295)) = true := by simp [Nat.ble_eq]; omega
      have e2 : (true && pl.length.ble 4294967295) = true := by simp [Nat.ble_eq]; omega
      (conv => arg 1; whnf); (repeat' (first | (refine brt (by assumption) ?_; (conv => arg 1; whnf)) | (refine brf (by assumption) ?_; (conv => arg 1; whnf)) | fail))
      rw [hl', hw1, hk1]
      (conv => arg 1; whnf); (repeat' (first | (refine brt (by assumption) ?_; (conv => arg 1; whnf)) | (refine brf (by assumption) ?_; (conv => arg 1; whnf)) | fail))
      refine joinIn (fun _ : Unit => True) (fun _ => frm 186 [(1, rrow eI pl), (5, .p 0 0), (11, i64 c), (12, .p 1 0), (13, i64 w), (14, i64 k), (15, .s 2 1 0 pl.length)]) (fun _ => [.lit (snapC p), .lit (snapC (moreS p fl c)), .tab 1 pl.length fun i => [row eI ((insP pl c k (w : Int)).getD i [])]]) ?_ (fun _ _ => ?_)
      · have q4 : (decide ((0 : Int) ≤ 0) && (decide ((0 : Int) ≤ (k : Int)) && (decide ((k : Int) ≤ (l.length : Int)) && decide ((l.length : Int) ≤ (l.length : Int))))) = true := by simp only [Bool.and_eq_true, decide_eq_true_eq]; omega
        have q5 : (decide ((0 : Int) ≤ (k : Int)) && (decide ((k : Int) ≤ (l.length : Int)) && (decide ((l.length : Int) ≤ (l.length : Int)) && decide ((l.length : Int) ≤ (l.length : Int))))) = true := by simp only [Bool.and_eq_true, decide_eq_true_eq]; omega
        have q6 : decide (0 + (c : Int).toNat < 0 + pl.length) = true := decide_eq_true (by omega)
        (conv => arg 1; whnf); (repeat' (first | (refine brt (by assumption) ?_; (conv => arg 1; whnf)) | (refine brf (by assumption) ?_; (conv => arg 1; whnf)) | fail))
        rw [hl']
        (conv => arg 1; whnf); (repeat' (first | (refine brt (by assumption) ?_; (conv => arg 1; whnf)) | (refine brf (by assumption) ?_; (conv => arg 1; whnf)) | fail))
        (refine brt ?_ ?_; (focus (simp [Nat.ble_eq]; omega; done)); (conv => arg 1; whnf))
        (conv => arg 1; whnf); (repeat' (first | (refine brt (by assumption) ?_; (conv => arg 1; whnf)) | (refine brf (by assumption) ?_; (conv => arg 1; whnf)) | fail))
        (refine brt ?_ ?_; (focus (simp [Nat.ble_eq]; omega; done)); (conv => arg 1; whnf))
        (conv => arg 1; whnf); (repeat' (first | (refine brt (by assumption) ?_; (conv => arg 1; whnf)) | (refine brf (by assumption) ?_; (conv => arg 1; whnf)) | fail))
        rw [hl']
        (conv => arg 1; whnf); (repeat' (first | (refine brt (by assumption) ?_; (conv => arg 1; whnf)) | (refine brf (by assumption) ?_; (conv => arg 1; whnf)) | fail))
        (refine brt ?_ ?_; (focus (simp [Nat.ble_eq]; omega; done)); (conv => arg 1; whnf))
        (conv => arg 1; whnf); (repeat' (first | (refine brt (by assumption) ?_; (conv => arg 1; whnf)) | (refine brf (by assumption) ?_; (conv => arg 1; whnf)) | fail))
        (refine brt ?_ ?_; (focus (simp; omega; done)); (conv => arg 1; whnf))
        (conv => arg 1; whnf); (repeat' (first | (refine brt (by assumption) ?_; (conv => arg 1; whnf)) | (refine brf (by assumption) ?_; (conv => arg 1; whnf)) | fail))
        refine joinTo () [0, 1, 3] trivial (by decide) ?_ ?_ rfl
        · repeat' (first | exact True.intro | exact Fit.dead _ | exact Fit.v _ | exact .p rfl | exact .i fun _ _ => rfl | exact fit_s rfl rfl (Nat.zero_add _).symm | exact Fit.v' (by rw [hw]) | refine And.intro ?_ ?_)
        · refine ⟨⟨_, rfl, .lit (by repeat' (first | exact True.intro | exact Fit.v _ | exact row_self eRd _ | exact row_self eWn _ | refine And.intro ?_ ?_))⟩, ⟨_, rfl, .lit (by repeat' (first | exact True.intro | exact Fit.v _ | exact row_self eRd _ | exact row_self eWn _ | refine And.intro ?_ ?_))⟩, ⟨_, rfl, fit_putv (c := c) (Nat.zero_add _).symm (by omega) rfl ?_ (fun i hi e => ?_) fun i hi u hu => ?_⟩, trivial⟩
          · rw [insP_get hcl, if_pos rfl]
            refine ⟨fit_fz (e := eI) rfl rfl (by simp) (Nat.le_of_eq (Nat.zero_add _)) ?_, trivial⟩
            rw [← hl]
            have P1 : RowIs eI ((k : Int).toNat - Int.toNat 0) (fun j => eI.enc (l.getD (Int.toNat 0 + j) eI.dflt)) (l.take k) := by
              have := RowIs.part eI (RowIs.row eI l) (o := 0) (m := k) (by omega)
              exact this
            have P2 : RowIs eI ((l.length : Int).toNat - (k : Int).toNat) (fun j => eI.enc (l.getD ((k : Int).toNat + j) eI.dflt)) (l.drop k) := by
              have := RowIs.part eI (RowIs.row eI l) (o := k) (m := l.length - k) (by omega)
              rw [show l.length - k = (l.drop k).length by simp, List.take_length] at this
              rw [show (l.length : Int).toNat - (k : Int).toNat = (l.drop k).length by simp]
              exact this
            unfold insL
            refine RowIs.all eI (RowIs.joined eI (RowIs.all eI (RowIs.snoc eI (RowIs.all eI (RowIs.joined eI (RowIs.nil eI _) P1)) ?_)) P2)
            rw [hw]; rfl
          · rw [insP_get hcl, if_neg e, joined_zero]; exact ⟨row_self eI _, trivial⟩
          · obtain rfl := List.mem_singleton.1 hu; rfl
      · have hls : ∀ l ∈ pl, l.length ≤ 1000 := fun l hl => by have := g4 l hl; omega
        have hls' : (pl.all fun l => decide (l.length ≤ 1000)) = true := List.all_eq_true.2 fun l hl => decide_eq_true (hls l hl)
        have hf2 := feas_more hfea (fl := fl) (by omega) hcl (by omega) (k := k) (by rw [← hl]; omega)
        have hCm := cost_more hfea (fl := fl) (by omega) hcl (by omega) (k := k) (by rw [← hl]; omega)
        have hWm := fun i (hi : i < p.ws.length) => waits_more hfea (fl := fl) (by omega) hcl (by omega) (k := k) (by rw [← hl]; omega) hi
        obtain ⟨ql, hql⟩ : ∃ ql, ql = insP pl c k (w : Int) := ⟨_, rfl⟩
        have hQl : ql.length = pl.length := by rw [hql]; exact insP_len _ _ _ _
        have hQ : ∀ l ∈ ql, l.length ≤ 1000 := by
          intro x hx
          rw [hql] at hx
          rcases List.mem_or_eq_of_mem_set hx with h | rfl
          · exact hls x h
          · rw [insL_len (by rw [← hl]; omega), ← hl]; omega
        rw [← hw, ← hql] at hf2 hCm hWm
        rw [← hql, ← hQl]
        have hQ' : (ql.all fun l => decide (l.length ≤ 1000)) = true := List.all_eq_true.2 fun l hl => decide_eq_true (hQ l hl)
        have hq3 : ql.length < 281474976710656 := by omega
        have hq4 : ∀ l ∈ ql, l.length < 281474976710656 := fun l hl => by have := hQ l hl; omega
        obtain ⟨t, ht⟩ : ∃ t, t = moreS p fl c := ⟨_, rfl⟩
        have htw : t.ws.length = w + 1 := by rw [ht, more_len, hw]
        have htc : t.cs.length = p.cs.length := by rw [ht]; rfl
        rw [← ht] at hf2 hCm hWm
        rw [← ht]
        have C1 := and2 (and2 (a := (rowsRR eI pl.length fun k => [row eI (pl.getD k [])]).all fun l => decide (l.length ≤ 1000)) (by rw [rowsRR_row]; exact hls') (planRows hp3 hp4)) (snapRows hp1 hp2)
        have C2 := and2 (and2 (and2 (a := (rowsRR eI pl.length fun k => [row eI (pl.getD k [])]).all fun l => decide (l.length ≤ 1000)) (b := decide (p.rd.ws.length ≤ 100000000)) (by rw [rowsRR_row]; exact hls') (decide_eq_true (by rw [p.rd_eq]; omega))) (planRows hp3 hp4)) (snapRows hp1 hp2)
        have w1 : waitsR p.rd (rowsRR eI pl.length fun k => [row eI (pl.getD k [])]) = (waitsL p pl, 0) := by rw [p.rd_eq, rowsRR_row]; unfold waitsR; rw [hfea]; rfl
        have w2 : waitsR t.rd (rowsRR eI ql.length fun k => [row eI (ql.getD (0 + k) [])]) = (waitsL t ql, 0) := by rw [t.rd_eq, rowsRR0]; unfold waitsR; rw [hf2]; rfl
        have v1 := waits_sum hfea hls
        have v2 := waits_sum hf2 hQ
        have w3 : costR p.rd (rowsRR eI pl.length fun k => [row eI (pl.getD k [])]) = ((waitsL p pl).sum, 0) := by
          rw [p.rd_eq, rowsRR_row]; unfold costR waitsR; rw [hfea]; show (sumL (waitsL p pl) (waitsL p pl).length, (0 : Int)) = _; rw [v1.1]
        have w4 : costR t.rd (rowsRR eI ql.length fun k => [row eI (ql.getD (0 + k) [])]) = ((waitsL t ql).sum, 0) := by
          rw [t.rd_eq, rowsRR0]; unfold costR waitsR; rw [hf2]; show (sumL (waitsL t ql) (waitsL t ql).length, (0 : Int)) = _; rw [v2.1]
        have hA : (waitsL p pl).length = w := by rw [hw]; exact asgOf_len _ _
        have hBB : (waitsL t ql).length = w + 1 := by rw [← htw]; exact asgOf_len _ _
        have tr1 : (isRow eRd t.cs.length eRd.sz (fun k => eRd.enc (t.cs.getD k eRd.dflt)) && isRow eWn t.ws.length eWn.sz fun k => eWn.enc (t.ws.getD k eWn.dflt)) = true := snapRows (by omega) (by omega)
        (conv => arg 1; whnf); (repeat' (first | (refine brt (by assumption) ?_; (conv => arg 1; whnf)) | (refine brf (by assumption) ?_; (conv => arg 1; whnf)) | fail))
        rw [w1]
        have hS : vokD [.lit (snapC p), .lit (snapC t), .tab 1 ql.length fun i => [row eI (ql.getD i [])], tabl eI (waitsL p pl)] (.s 2 1 0 ql.length) = true := decide_eq_true (by omega : 0 + ql.length ≤ ql.length)
        (conv => arg 1; whnf); (repeat' (first | (refine brt (by assumption) ?_; (conv => arg 1; whnf)) | (refine brf (by assumption) ?_; (conv => arg 1; whnf)) | fail))
        (refine brt ?_ ?_; (focus (exact and2 (all2 rfl hS) (and2 (and2 (by show ((rowsRR eI ql.length fun k => [row eI (ql.getD (0 + k) [])]).all fun l => decide (l.length ≤ 1000)) = true; rw [rowsRR0]; exact hQ') (planRows0 hq3 hq4)) tr1); done)); (conv => arg 1; whnf))
        rw [w2]
        (conv => arg 1; whnf); (repeat' (first | (refine brt (by assumption) ?_; (conv => arg 1; whnf)) | (refine brf (by assumption) ?_; (conv => arg 1; whnf)) | fail))
        rw [w3]
        (refine brt ?_ ?_; (focus (exact and2 (all2 rfl (decide_eq_true (by omega : 0 + ql.length ≤ ql.length))) (and2 (and2 (and2 (by show ((rowsRR eI ql.length fun k => [row eI (ql.getD (0 + k) [])]).all fun l => decide (l.length ≤ 1000)) = true; rw [rowsRR0]; exact hQ') (by show decide (t.rd.ws.length ≤ 100000000) = true; rw [t.rd_eq, htw]; exact decide_eq_true (by omega))) (planRows0 hq3 hq4)) tr1); done)); (conv => arg 1; whnf))
        rw [w4]
        (conv => arg 1; whnf); (repeat' (first | (refine brt (by assumption) ?_; (conv => arg 1; whnf)) | (refine brf (by assumption) ?_; (conv => arg 1; whnf)) | fail))
        obtain ⟨A, hAe⟩ : ∃ A, A = waitsL p pl := ⟨_, rfl⟩
        obtain ⟨B, hBe⟩ : ∃ B, B = waitsL t ql := ⟨_, rfl⟩
        rw [← hAe] at hA hCm hWm v1
        rw [← hBe] at hBB hCm hWm v2
        rw [← hAe, ← hBe]
        have hb0 : 0 ≤ B.getD w 0 := by rw [hBe]; exact (waits_bd hf2 hQ _ (mem_getD (by rw [← hBe]; omega))).1
        clear w1 w2 w3 w4 C1 C2 tr1 hS hQ'
        refine loopIn (fun i : Nat => i ≤ w) (fun i => frm 186 [(1, rrow eI pl), (11, i64 c), (13, i64 w), (14, i64 k), (16, .s 0 1 0 A.length), (18, .s 1 1 0 B.length), (20, i64 A.sum), (22, i64 B.sum), (145, i64 A.length), (146, i64 i)]) (fun _ => [tabl eI A, tabl eI B]) (fun i => w - i) 0 [3, 4] (Nat.zero_le _) (by decide) ?_ ?_ rfl fun i hi => ?_
        · repeat' (first | exact True.intro | exact Fit.dead _ | exact Fit.v _ | exact .p rfl | exact .s rfl | exact .i fun _ _ => rfl | refine And.intro ?_ ?_)
        · exact ⟨⟨_, rfl, .tab fun _ _ => rfl⟩, ⟨_, rfl, .tab fun _ _ => rfl⟩, trivial⟩
        have hi : i ≤ w := hi
        (conv => arg 1; whnf)
        refine br (fun h3 => ?_) (fun h3 => ?_)
        · have hlt : i < w := by have := of_decide_eq_true h3; omega
          have ei : (i : Int).toNat = i := by omega
          have y1 : (decide (0 ≤ (i : Int)) && decide ((i : Int) < (A.length : Int))) = true := by simp only [Bool.and_eq_true, decide_eq_true_eq]; omega
          have y2 : (decide (0 ≤ (i : Int)) && decide ((i : Int) < (B.length : Int))) = true := by simp only [Bool.and_eq_true, decide_eq_true_eq]; omega
          have y3 : decide (0 + (i : Int).toNat < A.length) = true := decide_eq_true (by omega)
          have y4 : decide (0 + (i : Int).toNat < B.length) = true := decide_eq_true (by omega)
          have y5 : decide (B.getD (0 + (i : Int).toNat) 0 < A.getD (0 + (i : Int).toNat) 0) = false := by
            rw [ei, Nat.zero_add]
            have := (hWm i (by omega)).1
            exact decide_eq_false (by omega)
          (conv => arg 1; whnf); (repeat' (first | (refine brt (by assumption) ?_; (conv => arg 1; whnf)) | (refine brf (by assumption) ?_; (conv => arg 1; whnf)) | fail))
          refine again (i + 1) [0, 1] (by show i + 1 ≤ w; omega) (by show w - (i + 1) < w - i; omega) (by decide) ?_ ?_ rfl
          · repeat' (first | exact True.intro | exact Fit.dead _ | exact Fit.v _ | exact .p rfl | exact .s rfl | exact .i fun _ _ => rfl | exact Fit.v' (congrArg (Value.int .i64) (nxt i (by omega)).symm) | refine And.intro ?_ ?_)
          · exact ⟨⟨_, rfl, .tab fun _ _ => rfl⟩, ⟨_, rfl, .tab fun _ _ => rfl⟩, trivial⟩
        · have y2 : (decide (0 ≤ (w : Int)) && decide ((w : Int) < (B.length : Int))) = true := by simp only [Bool.and_eq_true, decide_eq_true_eq]; omega
          have y4 : decide (0 + (w : Int).toNat < B.length) = true := decide_eq_true (by omega)
          have hwB : B.getD (0 + (w : Int).toNat) 0 = B.getD w 0 := by rw [Nat.zero_add, Int.toNat_natCast]
          (conv => arg 1; whnf); (repeat' (first | (refine brt (by assumption) ?_; (conv => arg 1; whnf)) | (refine brf (by assumption) ?_; (conv => arg 1; whnf)) | fail))
          refine leave ?_
          show tr _
          have hwr : IntKind.i64.wrap (A.sum + B.getD (0 + (w : Int).toNat) 0) = A.sum + B.getD w 0 := by rw [hwB, i64w _ (by omega) (by omega)]
          have z1 : decide (IntKind.i64.wrap (A.sum + B.getD (0 + (w : Int).toNat) 0) ≤ B.sum) = true := by rw [hwr]; exact decide_eq_true hCm.1
          (conv => arg 1; whnf); (repeat' (first | (refine brt (by assumption) ?_; (conv => arg 1; whnf)) | (refine brf (by assumption) ?_; (conv => arg 1; whnf)) | fail))
          rw [hl']
          cases hk : decide ((k : Int) < (l.length : Int)) with
          | true =>
            (conv => arg 1; whnf); (repeat' (first | (refine brt (by assumption) ?_; (conv => arg 1; whnf)) | (refine brf (by assumption) ?_; (conv => arg 1; whnf)) | fail))
            exact finB rfl
          | false =>
            have hke : k = (pl.getD c []).length := by have := of_decide_eq_false hk; rw [← hl]; omega
            have z2 := hCm.2 hke
            (conv => arg 1; whnf); (repeat' (first | (refine brt (by assumption) ?_; (conv => arg 1; whnf)) | (refine brf (by assumption) ?_; (conv => arg 1; whnf)) | fail))
            refine finB ?_
            show true = decide (B.sum = IntKind.i64.wrap (A.sum + B.getD (0 + (w : Int).toNat) 0))
            rw [hwr]
            exact (decide_eq_true z2.symm).symm
end Go.Proofs.Ytglpeibbkkikgaa.E
