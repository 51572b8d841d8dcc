/- The law PlanOnce, by the engine. -/
import Derived.Test.YtglpeibbkkikgaaPlanOnceM
import Derived.Test.YtglpeibbkkikgaaRouteMoreE
import Derived.Test.YtglpeibbkkikgaaSpeakPlanE
namespace Go.Proofs.Ytglpeibbkkikgaa.E
open Go NumMath
set_option linter.unusedSimpArgs false
set_option linter.unusedVariables false
set_option maxRecDepth 100000
set_option maxHeartbeats 8000000
noncomputable def XPO : Cx := (((((XN0.add 12 .pure (pureCtr (fn0 (giv true (boo true))))).add 13 (.foot reads2) (freshCtr greatG)).add 16 (.foot reads2) (freshCtr feasG)).tabs.join 200003).join 200026).join 200035
theorem XPO_ok : CxOk Try.prog XPO := (((((XN0_ok.pure speaks09_ok).fresh great_ok).fresh feas_ok).tabs.join 200003 rfl).join 200026 rfl).join 200035 rfl
theorem fit_vsnoc {ρ : List Nat} {σ : St} {n : Nat} {g0 g1 g2 : Nat → List AV} {rs : List Nat} {u : AV} (h1 : ∀ j, j < n → FitL ρ σ (g0 j) (g1 j)) (h2 : g2 0 = [u]) (h3 : FitL ρ σ (g0 n) [u]) (hp : ∀ k, k < n + 1 → ∀ u ∈ g0 k, pureCell u = true) : FitB ρ σ (.tab 1 (n + 1) g0) (.tabv 1 (n + 1) (joined n g1 g2) rs) := by
  refine .vt (fun k hk => ?_) hp
  unfold joined
  by_cases h : k < n
  · rw [if_pos h]; exact h1 k h
  · rw [if_neg h]
    obtain rfl : k = n := by omega
    rw [Nat.sub_self, h2]; exact h3
theorem ldTabv {tt : List TE} {e : TE} {f : List AV} {σ : St} {x : Operand} {t l sz i n : Nat} {get : Nat → List AV} {rs : List Nat} {u : AV} (hx : ev f x = .q l sz i 0) (hl : σ[l]? = some (.tabv sz n get rs)) (he : look tt t = some e) (ha : isAggD e.td = false) (hg : get i = [u]) : aOp tt (.load t x) f σ = some (decide (i < n), u, σ) := by
  show keep2 σ (aLoad tt t (ev f x) σ) = _
  rw [hx]
  unfold aLoad
  simp only [he, hl, Nat.beq_refl, ldCells, ha, hg]
  rfl
theorem rowsN {q : List (List Int)} {n : Nat} (h : q.length = n) : rowsRR eI n (fun k => [row eI (q.getD (0 + k) [])]) = q := by subst h; exact rowsRR0
theorem condN {q : List (List Int)} {n : Nat} (h : q.length = n) (h3 : n < 281474976710656) (h4 : ∀ l ∈ q, l.length ≤ 1000) : (Nat.beq 1 1 && (okRR eI n (fun k => [row eI (q.getD (0 + k) [])]) && Nat.blt n 281474976710656)) = true := by subst h; exact planRows0 h3 fun l hl => by have := h4 l hl; omega
theorem leN {q : List (List Int)} {n : Nat} (h : q.length = n) (h4 : ∀ l ∈ q, l.length ≤ 1000) : ((rowsRR eI n fun k => [row eI (q.getD (0 + k) [])]).all fun l => decide (l.length ≤ 1000)) = true := by rw [rowsN h]; exact List.all_eq_true.2 fun l hl => decide_eq_true (h4 l hl)
theorem fit_vvsnoc {ρ : List Nat} {σ : St} {n : Nat} {g0 g1 g2 : Nat → List AV} {rs0 rs : List Nat} {u : AV} (h1 : ∀ j, j < n → FitL ρ σ (g0 j) (g1 j)) (h2 : g2 0 = [u]) (h3 : FitL ρ σ (g0 n) [u]) : FitB ρ σ (.tabv 1 (n + 1) g0 rs0) (.tabv 1 (n + 1) (joined n g1 g2) rs) := by
  refine .tabv fun k hk => ?_
  unfold joined
  by_cases h : k < n
  · rw [if_pos h]; exact h1 k h
  · rw [if_neg h]
    obtain rfl : k = n := by omega
    rw [Nat.sub_self, h2]; exact h3
/-- The third table: till the car c0 is there all of it is read; from then on its list is owned. -/
def oddS (pl : List (List Int)) (w : Int) (c0 c : Nat) : St := if c ≤ c0 then [.tab 1 c fun j => [row eI ((outP pl w).getD j [])]] else [.tabv 1 c (fun j => if j = c0 then [.s 4 1 0 (remL (pl.getD c0 []) w).length] else [row eI ((outP pl w).getD j [])]) [4], tabl eI (remL (pl.getD c0 []) w)]
theorem PlanOnce (us : List AV) (h : areArgs tt [27, 29, 3, 3] us) : ∃ us', FitL [] [] us' us ∧ runF XPO Try.f4 us' [] (boo true) [] := by
  obtain ⟨_, _, rfl, h1, _, _, rfl, h2, _, _, rfl, h3, _, _, rfl, h4, rfl⟩ := h
  obtain ⟨p, rfl, hp1, hp2⟩ := snap_arg h1
  obtain ⟨pl, hf2, hp3, hp4⟩ := plan_arg h2
  obtain ⟨which, rfl, _, _⟩ := int_arg h3
  obtain ⟨other, rfl, _, _⟩ := int_arg h4
  refine ⟨[p.av, rrow eI pl, i64 which, i64 other], ⟨Fit.al (by repeat' (first | exact True.intro | exact Fit.v _ | exact row_self eRd _ | exact row_self eWn _ | refine And.intro ?_ ?_)), hf2, .v _, .v _, trivial⟩, ?_⟩
  clear h1 h2 h3 h4 hf2
  have fe : feasB p.rd (rowsRR eI pl.length fun k => [row eI (pl.getD k [])]) = feasB p pl := by rw [p.rd_eq, rowsRR_row]
  unfold runF
  (conv => arg 1; whnf); (repeat' (first | (refine brt (by assumption) ?_; (conv => arg 1; whnf)) | (refine brf (by assumption) ?_; (conv => arg 1; whnf)) | fail))
  obtain ⟨out, hout⟩ : ∃ o : Bool, o = (greatB p pl || (!(feasB p pl) || decide ((p.ws.length : Int) = 0))) := ⟨_, rfl⟩
  refine joinIn (fun _ : Unit => True) (fun _ => frm 173 [(1, rrow eI pl), (2, i64 which), (3, i64 other), (4, .p 0 0), (8, boo false), (41, boo out)]) (fun _ => [.lit (snapC p)]) ?_ (fun _ _ => ?_)
  · (conv => arg 1; whnf); (repeat' (first | (refine brt (by assumption) ?_; (conv => arg 1; whnf)) | (refine brf (by assumption) ?_; (conv => arg 1; whnf)) | fail))
    (refine brt ?_ ?_; (focus (exact and2 rfl (and2 (and2 rfl (planRows hp3 hp4)) (snapRows hp1 hp2)); done)); (conv => arg 1; whnf))
    rw [show greatB p.rd (rowsRR eI pl.length fun k => [row eI (pl.getD k [])]) = greatB p pl by rw [p.rd_eq, rowsRR_row]]
    cases hG : greatB p pl with
    | true =>
      rw [hG] at hout
      (conv => arg 1; whnf); (repeat' (first | (refine brt (by assumption) ?_; (conv => arg 1; whnf)) | (refine brf (by assumption) ?_; (conv => arg 1; whnf)) | fail))
      refine joinTo () [0] trivial (by decide) ?_ ⟨⟨_, rfl, .lit (by repeat' (first | exact True.intro | exact Fit.v _ | exact row_self eRd _ | exact row_self eWn _ | refine And.intro ?_ ?_))⟩, trivial⟩ rfl
      (repeat' (first | exact True.intro | exact Fit.dead _ | exact Fit.v _ | exact .p rfl | exact .s rfl | exact .i fun _ _ => rfl | exact Fit.v' (congrArg Value.bool (hout.trans (by rfl))) | refine And.intro ?_ ?_))
    | false =>
    rw [hG] at hout
    obtain ⟨g1, g2, g3, g4⟩ := great_no hG
    have hls : ∀ l ∈ pl, l.length ≤ 1000 := fun l hl => by have := g4 l hl; omega
    have hls' : (pl.all fun l => decide (l.length ≤ 1000)) = true := List.all_eq_true.2 fun l hl => decide_eq_true (hls l hl)
    have C1 := and2 (and2 (a := (rowsRR eI pl.length fun k => [row eI (pl.getD k [])]).all fun l => decide (l.length ≤ 1000)) (by rw [rowsRR_row]; exact hls') (planRows hp3 hp4)) (snapRows hp1 hp2)
    (conv => arg 1; whnf); (repeat' (first | (refine brt (by assumption) ?_; (conv => arg 1; whnf)) | (refine brf (by assumption) ?_; (conv => arg 1; whnf)) | fail))
    rw [fe]
    cases hF : feasB p pl with
    | false =>
      rw [hF] at hout
      (conv => arg 1; whnf); (repeat' (first | (refine brt (by assumption) ?_; (conv => arg 1; whnf)) | (refine brf (by assumption) ?_; (conv => arg 1; whnf)) | fail))
      refine joinTo () [0] trivial (by decide) ?_ ⟨⟨_, rfl, .lit (by repeat' (first | exact True.intro | exact Fit.v _ | exact row_self eRd _ | exact row_self eWn _ | refine And.intro ?_ ?_))⟩, trivial⟩ rfl
      (repeat' (first | exact True.intro | exact Fit.dead _ | exact Fit.v _ | exact .p rfl | exact .s rfl | exact .i fun _ _ => rfl | exact Fit.v' (congrArg Value.bool (hout.trans (by rfl))) | refine And.intro ?_ ?_))
    | true =>
    rw [hF] at hout
    (conv => arg 1; whnf); (repeat' (first | (refine brt (by assumption) ?_; (conv => arg 1; whnf)) | (refine brf (by assumption) ?_; (conv => arg 1; whnf)) | fail))
    refine joinTo () [0] trivial (by decide) ?_ ⟨⟨_, rfl, .lit (by repeat' (first | exact True.intro | exact Fit.v _ | exact row_self eRd _ | exact row_self eWn _ | refine And.intro ?_ ?_))⟩, trivial⟩ rfl
    (repeat' (first | exact True.intro | exact Fit.dead _ | exact Fit.v _ | exact .p rfl | exact .s rfl | exact .i fun _ _ => rfl | exact Fit.v' (congrArg Value.bool (hout.trans (by rfl))) | refine And.intro ?_ ?_))
  · cases out with
    | true =>
      (conv => arg 1; whnf); (repeat' (first | (refine brt (by assumption) ?_; (conv => arg 1; whnf)) | (refine brf (by assumption) ?_; (conv => arg 1; whnf)) | fail))
      exact finB rfl
    | false =>
    have hout := hout.symm
    simp only [Bool.or_eq_false_iff, Bool.not_eq_false', decide_eq_false_iff_not] at hout
    obtain ⟨hG, hfea, hW⟩ := hout
    obtain ⟨g1, g2, g3, g4⟩ := great_no hG
    obtain ⟨hr, hpl, hent, hone⟩ := feas_ent hfea
    obtain ⟨b1, b2, b3, b4, b5⟩ := Snap.right_bd hr
    have hb := Site.right_bd b1
    have hn0 : 0 < pl.length := by omega
    obtain ⟨w, hw, hwl⟩ := pick_lt which (n := p.ws.length) (by omega)
    obtain ⟨c0, hc0, hcl⟩ := pick_lt other hn0
    have q0 : (!(decide ((p.ws.length : Int) = 0))) = true := by rw [decide_eq_false hW]; rfl
    (conv => arg 1; whnf); (repeat' (first | (refine brt (by assumption) ?_; (conv => arg 1; whnf)) | (refine brf (by assumption) ?_; (conv => arg 1; whnf)) | fail))
    rw [hw]
    (conv => arg 1; whnf); (repeat' (first | (refine brt (by assumption) ?_; (conv => arg 1; whnf)) | (refine brf (by assumption) ?_; (conv => arg 1; whnf)) | fail))
    refine loopIn (fun x : Nat × Nat => x.1 ≤ pl.length ∧ x.2 < pl.length) (fun x => frm 173 [(1, rrow eI pl), (3, i64 other), (4, .p 0 0), (9, i64 w), (10, .s 1 1 0 x.1), (11, .s 2 1 0 x.1), (12, .s 3 1 0 x.1), (13, i64 x.2), (51, rrow eI pl), (52, i64 pl.length), (53, i64 x.1)]) (fun x => [.lit (snapC p), .tab 1 x.1 fun j => [row eI ((twP pl (w : Int)).getD j [])], .tab 1 x.1 fun j => [row eI ((outP pl (w : Int)).getD j [])]] ++ oddS pl (w : Int) c0 x.1) (fun x => pl.length - x.1) (0, 0) [0, 1, 2, 3] ⟨Nat.zero_le _, hn0⟩ (by decide) ?_ ?_ rfl fun x hx => ?_
    · (repeat' (first | exact True.intro | exact Fit.dead _ | exact Fit.v _ | exact .p rfl | exact .s rfl | exact .i fun _ _ => rfl | refine And.intro ?_ ?_))
    · unfold oddS
      rw [if_pos (Nat.zero_le _)]
      exact ⟨⟨_, rfl, .lit (by repeat' (first | exact True.intro | exact Fit.v _ | exact row_self eRd _ | exact row_self eWn _ | refine And.intro ?_ ?_))⟩, ⟨_, rfl, .tab fun k hk => absurd hk (Nat.not_lt_zero k)⟩, ⟨_, rfl, .tab fun k hk => absurd hk (Nat.not_lt_zero k)⟩, ⟨_, rfl, .tab fun k hk => absurd hk (Nat.not_lt_zero k)⟩, trivial⟩
    obtain ⟨c, hm⟩ := x
    obtain ⟨hc, hh⟩ := hx
    have hc : c ≤ pl.length := hc
    have hh : hm < pl.length := hh
    by_cases hcc : c ≤ c0
    · unfold oddS
      rw [if_pos hcc]
      dsimp only [List.cons_append, List.nil_append]
      (conv => arg 1; whnf)
      refine br (fun h2 => ?_) (fun h2 => ?_)
      ·
        have hlt : c < pl.length := by have := of_decide_eq_true h2; omega
        obtain ⟨l, hl⟩ : ∃ l, l = pl.getD c [] := ⟨_, rfl⟩
        have ec : (c : Int).toNat = c := by omega
        have hl' : pl.getD (c : Int).toNat [] = l := by rw [ec, hl]
        have hll : l.length ≤ 200 := by rw [hl]; exact g4 _ (mem_getD hlt)
        have e1 : (decide (0 ≤ (c : Int)) && decide ((c : Int) < (pl.length : Int))) = true := by simp only [Bool.and_eq_true, decide_eq_true_eq]; omega
        have e2 : ((0 + 0).ble 0 && (true && (0 + l.length).ble 4294967295)) = true := by simp [Nat.ble_eq]; omega
        (conv => arg 1; whnf); (repeat' (first | (refine brt (by assumption) ?_; (conv => arg 1; whnf)) | (refine brf (by assumption) ?_; (conv => arg 1; whnf)) | fail))
        rw [hl']
        (conv => arg 1; whnf); (repeat' (first | (refine brt (by assumption) ?_; (conv => arg 1; whnf)) | (refine brf (by assumption) ?_; (conv => arg 1; whnf)) | fail))
        refine loopIn (fun x : Nat × Nat => x.1 ≤ l.length ∧ x.2 < pl.length) (fun x => frm 173 [(1, rrow eI pl), (3, i64 other), (4, .p 0 0), (9, i64 w), (10, .s 1 1 0 c), (11, .s 2 1 0 c), (12, .s 3 1 0 c), (13, i64 x.2), (14, i64 c), (16, .s 4 1 0 (remL (l.take x.1) (w : Int)).length), (17, .s 5 1 0 (l ++ eqL (l.take x.1) (w : Int)).length), (51, rrow eI pl), (52, i64 pl.length), (53, i64 c), (62, row eI l), (63, i64 l.length), (64, i64 x.1)]) (fun x => [.lit (snapC p), .tab 1 c fun j => [row eI ((twP pl (w : Int)).getD j [])], .tab 1 c fun j => [row eI ((outP pl (w : Int)).getD j [])], .tab 1 c fun j => [row eI ((outP pl (w : Int)).getD j [])], tabl eI (remL (l.take x.1) (w : Int)), tabl eI (l ++ eqL (l.take x.1) (w : Int))]) (fun x => l.length - x.1) (0, hm) [0, 1, 2, 3, 4, 6] ⟨Nat.zero_le _, hh⟩ (by decide) ?_ ?_ rfl fun y hy => ?_
        · (repeat' (first | exact True.intro | exact Fit.dead _ | exact Fit.v _ | exact .p rfl | exact .s rfl | exact .i fun _ _ => rfl | exact fit_s rfl rfl (by simp [eqL]) | refine And.intro ?_ ?_))
        · refine ⟨⟨_, rfl, .lit (by repeat' (first | exact True.intro | exact Fit.v _ | exact row_self eRd _ | exact row_self eWn _ | refine And.intro ?_ ?_))⟩, ⟨_, rfl, .tab fun _ _ => rfl⟩, ⟨_, rfl, .tab fun _ _ => rfl⟩, ⟨_, rfl, .tab fun _ _ => rfl⟩, ⟨_, rfl, .tab fun k hk => absurd hk (Nat.not_lt_zero k)⟩, ⟨_, rfl, ?_⟩, trivial⟩
          · refine fit_tab (e := eI) ?_
            rw [List.take_zero, show eqL [] (w : Int) = [] from rfl, List.append_nil]
            exact RowIs.joined eI (RowIs.nil eI _) (RowIs.row eI l)
        obtain ⟨j, hj2⟩ := y
        obtain ⟨hj, hj3⟩ := hy
        have hj : j ≤ l.length := hj
        have hj3 : hj2 < pl.length := hj3
        (conv => arg 1; whnf)
        refine br (fun h3 => ?_) (fun h3 => ?_)
        · have hjl : j < l.length := by have := of_decide_eq_true h3; omega
          have ej : (j : Int).toNat = j := by omega
          obtain ⟨x, hx⟩ : ∃ x, x = l.getD j 0 := ⟨_, rfl⟩
          have hx' : l.getD (j : Int).toNat eI.dflt = x := by rw [ej, hx]; rfl
          have ht : l.take (j + 1) = l.take j ++ [x] := by
            rw [List.take_succ_eq_append_getElem hjl, hx, List.getD_eq_getElem?_getD, List.getElem?_eq_getElem hjl]; rfl
          have f1 : (decide (0 ≤ (j : Int)) && decide ((j : Int) < (l.length : Int))) = true := by simp only [Bool.and_eq_true, decide_eq_true_eq]; omega
          (conv => arg 1; whnf); (repeat' (first | (refine brt (by assumption) ?_; (conv => arg 1; whnf)) | (refine brf (by assumption) ?_; (conv => arg 1; whnf)) | fail))
          rw [hx']
          have hlr : (remL (l.take j) (w : Int)).length ≤ l.length := Nat.le_trans (List.length_filter_le _ _) (by simp; omega)
          have hle : (eqL (l.take j) (w : Int)).length ≤ l.length := Nat.le_trans (List.length_filter_le _ _) (by simp; omega)
          cases hxw : decide (x = (w : Int)) with
          | true =>
            have hxe := of_decide_eq_true hxw
            (conv => arg 1; whnf); (repeat' (first | (refine brt (by assumption) ?_; (conv => arg 1; whnf)) | (refine brf (by assumption) ?_; (conv => arg 1; whnf)) | fail))
            (refine brt ?_ ?_; (focus (simp [Nat.ble_eq]; omega; done)); (conv => arg 1; whnf))
            (conv => arg 1; whnf); (repeat' (first | (refine brt (by assumption) ?_; (conv => arg 1; whnf)) | (refine brf (by assumption) ?_; (conv => arg 1; whnf)) | fail))
            have r1 : remL (l.take (j + 1)) (w : Int) = remL (l.take j) (w : Int) := by rw [ht]; unfold remL; rw [List.filter_append]; simp [hxe]
            have r2 : l ++ eqL (l.take (j + 1)) (w : Int) = (l ++ eqL (l.take j) (w : Int)) ++ [(w : Int)] := by rw [ht]; unfold eqL; rw [List.filter_append]; simp [hxe]
            refine again (j + 1, c) [0, 1, 2, 3, 4, 7] ⟨hjl, hlt⟩ (by show l.length - (j + 1) < l.length - j; omega) (by decide) ?_ ?_ rfl
            · try dsimp only
              rw [r1, r2]
              (repeat' (first | exact True.intro | exact Fit.dead _ | exact Fit.v _ | exact .p rfl | exact .s rfl | exact .i fun _ _ => rfl | exact fit_s rfl rfl (by simp <;> omega) | exact Fit.v' (congrArg (Value.int .i64) (nxt j (by omega)).symm) | refine And.intro ?_ ?_))
            · try dsimp only
              rw [r1, r2]
              refine ⟨⟨_, rfl, .lit (by repeat' (first | exact True.intro | exact Fit.v _ | exact row_self eRd _ | exact row_self eWn _ | refine And.intro ?_ ?_))⟩, ⟨_, rfl, .tab fun _ _ => rfl⟩, ⟨_, rfl, .tab fun _ _ => rfl⟩, ⟨_, rfl, .tab fun _ _ => rfl⟩, ⟨_, rfl, .tab fun _ _ => rfl⟩, ⟨_, rfl, ?_⟩, trivial⟩
              · refine fit_tab (e := eI) ?_
                exact RowIs.snoc eI (RowIs.all eI (RowIs.row eI _)) rfl
          | false =>
            have hxe := of_decide_eq_false hxw
            (conv => arg 1; whnf); (repeat' (first | (refine brt (by assumption) ?_; (conv => arg 1; whnf)) | (refine brf (by assumption) ?_; (conv => arg 1; whnf)) | fail))
            (refine brt ?_ ?_; (focus (simp [Nat.ble_eq]; omega; done)); (conv => arg 1; whnf))
            (conv => arg 1; whnf); (repeat' (first | (refine brt (by assumption) ?_; (conv => arg 1; whnf)) | (refine brf (by assumption) ?_; (conv => arg 1; whnf)) | fail))
            have r1 : remL (l.take (j + 1)) (w : Int) = remL (l.take j) (w : Int) ++ [x] := by rw [ht]; unfold remL; rw [List.filter_append]; simp [hxe]
            have r2 : l ++ eqL (l.take (j + 1)) (w : Int) = l ++ eqL (l.take j) (w : Int) := by rw [ht]; unfold eqL; rw [List.filter_append]; simp [hxe]
            refine again (j + 1, hj2) [0, 1, 2, 3, 7, 5] ⟨hjl, hj3⟩ (by show l.length - (j + 1) < l.length - j; omega) (by decide) ?_ ?_ rfl
            · try dsimp only
              rw [r1, r2]
              (repeat' (first | exact True.intro | exact Fit.dead _ | exact Fit.v _ | exact .p rfl | exact .s rfl | exact .i fun _ _ => rfl | exact fit_s rfl rfl (by simp <;> omega) | exact Fit.v' (congrArg (Value.int .i64) (nxt j (by omega)).symm) | refine And.intro ?_ ?_))
            · try dsimp only
              rw [r1, r2]
              refine ⟨⟨_, rfl, .lit (by repeat' (first | exact True.intro | exact Fit.v _ | exact row_self eRd _ | exact row_self eWn _ | refine And.intro ?_ ?_))⟩, ⟨_, rfl, .tab fun _ _ => rfl⟩, ⟨_, rfl, .tab fun _ _ => rfl⟩, ⟨_, rfl, .tab fun _ _ => rfl⟩, ⟨_, rfl, ?_⟩, ⟨_, rfl, .tab fun _ _ => rfl⟩, trivial⟩
              · refine fit_tab (e := eI) ?_
                exact RowIs.snoc eI (RowIs.all eI (RowIs.row eI _)) (by rw [← hx']; rfl)
        · have hjl : j = l.length := by have := of_decide_eq_false h3; omega
          subst hjl
          (conv => arg 1; whnf); (repeat' (first | (refine brt (by assumption) ?_; (conv => arg 1; whnf)) | (refine brf (by assumption) ?_; (conv => arg 1; whnf)) | fail))
          refine leave ?_
          show tr _
          rw [List.take_length]
          have hlr : (remL l (w : Int)).length ≤ l.length := List.length_filter_le _ _
          have hle : (eqL l (w : Int)).length ≤ l.length := List.length_filter_le _ _
          have oG : (outP pl (w : Int)).getD c [] = remL l (w : Int) := by rw [outP_get hlt, ← hl]
          have tG : (twP pl (w : Int)).getD c [] = l ++ eqL l (w : Int) := by rw [twP_get hlt, ← hl]
          (conv => arg 1; whnf); (repeat' (first | (refine brt (by assumption) ?_; (conv => arg 1; whnf)) | (refine brf (by assumption) ?_; (conv => arg 1; whnf)) | fail))
          (refine brt ?_ ?_; (focus (simp [Nat.ble_eq]; omega; done)); (conv => arg 1; whnf))
          (conv => arg 1; whnf); (repeat' (first | (refine brt (by assumption) ?_; (conv => arg 1; whnf)) | (refine brf (by assumption) ?_; (conv => arg 1; whnf)) | fail))
          (refine brt ?_ ?_; (focus (simp [Nat.ble_eq]; omega; done)); (conv => arg 1; whnf))
          (conv => arg 1; whnf); (repeat' (first | (refine brt (by assumption) ?_; (conv => arg 1; whnf)) | (refine brf (by assumption) ?_; (conv => arg 1; whnf)) | fail))
          (refine brt ?_ ?_; (focus (simp [Nat.ble_eq]; omega; done)); (conv => arg 1; whnf))
          (conv => arg 1; whnf); (repeat' (first | (refine brt (by assumption) ?_; (conv => arg 1; whnf)) | (refine brf (by assumption) ?_; (conv => arg 1; whnf)) | fail))
          (refine brt ?_ ?_; (focus (simp [Nat.ble_eq]; omega; done)); (conv => arg 1; whnf))
          (conv => arg 1; whnf); (repeat' (first | (refine brt (by assumption) ?_; (conv => arg 1; whnf)) | (refine brf (by assumption) ?_; (conv => arg 1; whnf)) | fail))
          by_cases hc1 : c + 1 ≤ c0
          · refine again (c + 1, hj2) [0, 9, 7, 13] ⟨hlt, hj3⟩ (by show pl.length - (c + 1) < pl.length - c; omega) (by decide) ?_ ?_ rfl
            · (repeat' (first | exact True.intro | exact Fit.dead _ | exact Fit.v _ | exact .p rfl | exact .s rfl | exact .i fun _ _ => rfl | exact Fit.v' (congrArg (Value.int .i64) (nxt c (by omega)).symm) | refine And.intro ?_ ?_))
            · dsimp only
              rw [if_pos hc1]
              exact ⟨⟨_, rfl, .lit (by repeat' (first | exact True.intro | exact Fit.v _ | exact row_self eRd _ | exact row_self eWn _ | refine And.intro ?_ ?_))⟩, ⟨_, rfl, fit_vsnoc (fun j hj => by (try dsimp only); rw [Nat.zero_add j]; exact ⟨row_self eI _, trivial⟩) rfl (by rw [tG]; exact ⟨fit_fz (e := eI) rfl rfl (by simp) (by simp) (RowIs.all eI (RowIs.row eI _)), trivial⟩) (fun k hk u hu => by obtain rfl := List.mem_singleton.1 hu; rfl)⟩, ⟨_, rfl, fit_vsnoc (fun j hj => by (try dsimp only); rw [Nat.zero_add j]; exact ⟨row_self eI _, trivial⟩) rfl (by rw [oG]; exact ⟨fit_fz (e := eI) rfl rfl (by simp) (by simp) (RowIs.all eI (RowIs.row eI _)), trivial⟩) (fun k hk u hu => by obtain rfl := List.mem_singleton.1 hu; rfl)⟩, ⟨_, rfl, fit_vsnoc (fun j hj => by (try dsimp only); rw [Nat.zero_add j]; exact ⟨row_self eI _, trivial⟩) rfl (by rw [oG]; exact ⟨fit_fz (e := eI) rfl rfl (by simp) (by simp) (RowIs.all eI (RowIs.joined eI (RowIs.nil eI _) (RowIs.all eI (RowIs.row eI _)))), trivial⟩) (fun k hk u hu => by obtain rfl := List.mem_singleton.1 hu; rfl)⟩, trivial⟩
          · have hce : c = c0 := by omega
            refine again (c + 1, hj2) [0, 9, 7, 13, 11] ⟨hlt, hj3⟩ (by show pl.length - (c + 1) < pl.length - c; omega) (by decide) ?_ ?_ rfl
            · (repeat' (first | exact True.intro | exact Fit.dead _ | exact Fit.v _ | exact .p rfl | exact .s rfl | exact .i fun _ _ => rfl | exact Fit.v' (congrArg (Value.int .i64) (nxt c (by omega)).symm) | refine And.intro ?_ ?_))
            · dsimp only
              rw [if_neg hc1, ← hce, ← hl]
              refine ⟨⟨_, rfl, .lit (by repeat' (first | exact True.intro | exact Fit.v _ | exact row_self eRd _ | exact row_self eWn _ | refine And.intro ?_ ?_))⟩, ⟨_, rfl, fit_vsnoc (fun j hj => by (try dsimp only); rw [Nat.zero_add j]; exact ⟨row_self eI _, trivial⟩) rfl (by rw [tG]; exact ⟨fit_fz (e := eI) rfl rfl (by simp) (by simp) (RowIs.all eI (RowIs.row eI _)), trivial⟩) (fun k hk u hu => by obtain rfl := List.mem_singleton.1 hu; rfl)⟩, ⟨_, rfl, fit_vsnoc (fun j hj => by (try dsimp only); rw [Nat.zero_add j]; exact ⟨row_self eI _, trivial⟩) rfl (by rw [oG]; exact ⟨fit_fz (e := eI) rfl rfl (by simp) (by simp) (RowIs.all eI (RowIs.row eI _)), trivial⟩) (fun k hk u hu => by obtain rfl := List.mem_singleton.1 hu; rfl)⟩, ⟨_, rfl, fit_vvsnoc (fun j hj => ?_) rfl ?_⟩, ⟨_, rfl, fit_tab (e := eI) (RowIs.joined eI (RowIs.nil eI _) (RowIs.all eI (RowIs.row eI _)))⟩, trivial⟩
              · try dsimp only
                rw [Nat.zero_add j, if_neg (by omega)]
                exact ⟨row_self eI _, trivial⟩
              · try dsimp only
                rw [if_pos rfl]
                exact ⟨fit_s rfl rfl (Nat.zero_add _).symm, trivial⟩
      · exfalso; have := of_decide_eq_false h2; omega
    · unfold oddS
      rw [if_neg hcc]
      dsimp only [List.cons_append, List.nil_append]
      (conv => arg 1; whnf)
      refine br (fun h2 => ?_) (fun h2 => ?_)
      ·
        have hlt : c < pl.length := by have := of_decide_eq_true h2; omega
        obtain ⟨l, hl⟩ : ∃ l, l = pl.getD c [] := ⟨_, rfl⟩
        have ec : (c : Int).toNat = c := by omega
        have hl' : pl.getD (c : Int).toNat [] = l := by rw [ec, hl]
        have hll : l.length ≤ 200 := by rw [hl]; exact g4 _ (mem_getD hlt)
        have e1 : (decide (0 ≤ (c : Int)) && decide ((c : Int) < (pl.length : Int))) = true := by simp only [Bool.and_eq_true, decide_eq_true_eq]; omega
        have e2 : ((0 + 0).ble 0 && (true && (0 + l.length).ble 4294967295)) = true := by simp [Nat.ble_eq]; omega
        (conv => arg 1; whnf); (repeat' (first | (refine brt (by assumption) ?_; (conv => arg 1; whnf)) | (refine brf (by assumption) ?_; (conv => arg 1; whnf)) | fail))
        rw [hl']
        (conv => arg 1; whnf); (repeat' (first | (refine brt (by assumption) ?_; (conv => arg 1; whnf)) | (refine brf (by assumption) ?_; (conv => arg 1; whnf)) | fail))
        refine loopIn (fun x : Nat × Nat => x.1 ≤ l.length ∧ x.2 < pl.length) (fun x => frm 173 [(1, rrow eI pl), (3, i64 other), (4, .p 0 0), (9, i64 w), (10, .s 1 1 0 c), (11, .s 2 1 0 c), (12, .s 3 1 0 c), (13, i64 x.2), (14, i64 c), (16, .s 5 1 0 (remL (l.take x.1) (w : Int)).length), (17, .s 6 1 0 (l ++ eqL (l.take x.1) (w : Int)).length), (51, rrow eI pl), (52, i64 pl.length), (53, i64 c), (62, row eI l), (63, i64 l.length), (64, i64 x.1)]) (fun x => [.lit (snapC p), .tab 1 c fun j => [row eI ((twP pl (w : Int)).getD j [])], .tab 1 c fun j => [row eI ((outP pl (w : Int)).getD j [])], .tabv 1 c (fun j => if j = c0 then [.s 4 1 0 (remL (pl.getD c0 []) (w : Int)).length] else [row eI ((outP pl (w : Int)).getD j [])]) [4], tabl eI (remL (pl.getD c0 []) (w : Int)), tabl eI (remL (l.take x.1) (w : Int)), tabl eI (l ++ eqL (l.take x.1) (w : Int))]) (fun x => l.length - x.1) (0, hm) [0, 1, 2, 3, 4, 5, 7] ⟨Nat.zero_le _, hh⟩ (by decide) ?_ ?_ rfl fun y hy => ?_
        · (repeat' (first | exact True.intro | exact Fit.dead _ | exact Fit.v _ | exact .p rfl | exact .s rfl | exact .i fun _ _ => rfl | exact fit_s rfl rfl (by simp [eqL]) | refine And.intro ?_ ?_))
        · refine ⟨⟨_, rfl, .lit (by repeat' (first | exact True.intro | exact Fit.v _ | exact row_self eRd _ | exact row_self eWn _ | refine And.intro ?_ ?_))⟩, ⟨_, rfl, .tab fun _ _ => rfl⟩, ⟨_, rfl, .tab fun _ _ => rfl⟩, ⟨_, rfl, .tabv fun k hk => ?_⟩, ⟨_, rfl, .tab fun _ _ => rfl⟩, ⟨_, rfl, .tab fun k hk => absurd hk (Nat.not_lt_zero k)⟩, ⟨_, rfl, ?_⟩, trivial⟩
          · dsimp only
            by_cases e : k = c0
            · simp only [if_pos e]; exact ⟨.s rfl, trivial⟩
            · simp only [if_neg e]; exact ⟨row_self eI _, trivial⟩
          · refine fit_tab (e := eI) ?_
            rw [List.take_zero, show eqL [] (w : Int) = [] from rfl, List.append_nil]
            exact RowIs.joined eI (RowIs.nil eI _) (RowIs.row eI l)
        obtain ⟨j, hj2⟩ := y
        obtain ⟨hj, hj3⟩ := hy
        have hj : j ≤ l.length := hj
        have hj3 : hj2 < pl.length := hj3
        (conv => arg 1; whnf)
        refine br (fun h3 => ?_) (fun h3 => ?_)
        · have hjl : j < l.length := by have := of_decide_eq_true h3; omega
          have ej : (j : Int).toNat = j := by omega
          obtain ⟨x, hx⟩ : ∃ x, x = l.getD j 0 := ⟨_, rfl⟩
          have hx' : l.getD (j : Int).toNat eI.dflt = x := by rw [ej, hx]; rfl
          have ht : l.take (j + 1) = l.take j ++ [x] := by
            rw [List.take_succ_eq_append_getElem hjl, hx, List.getD_eq_getElem?_getD, List.getElem?_eq_getElem hjl]; rfl
          have f1 : (decide (0 ≤ (j : Int)) && decide ((j : Int) < (l.length : Int))) = true := by simp only [Bool.and_eq_true, decide_eq_true_eq]; omega
          (conv => arg 1; whnf); (repeat' (first | (refine brt (by assumption) ?_; (conv => arg 1; whnf)) | (refine brf (by assumption) ?_; (conv => arg 1; whnf)) | fail))
          rw [hx']
          have hlr : (remL (l.take j) (w : Int)).length ≤ l.length := Nat.le_trans (List.length_filter_le _ _) (by simp; omega)
          have hle : (eqL (l.take j) (w : Int)).length ≤ l.length := Nat.le_trans (List.length_filter_le _ _) (by simp; omega)
          cases hxw : decide (x = (w : Int)) with
          | true =>
            have hxe := of_decide_eq_true hxw
            (conv => arg 1; whnf); (repeat' (first | (refine brt (by assumption) ?_; (conv => arg 1; whnf)) | (refine brf (by assumption) ?_; (conv => arg 1; whnf)) | fail))
            (refine brt ?_ ?_; (focus (simp [Nat.ble_eq]; omega; done)); (conv => arg 1; whnf))
            (conv => arg 1; whnf); (repeat' (first | (refine brt (by assumption) ?_; (conv => arg 1; whnf)) | (refine brf (by assumption) ?_; (conv => arg 1; whnf)) | fail))
            have r1 : remL (l.take (j + 1)) (w : Int) = remL (l.take j) (w : Int) := by rw [ht]; unfold remL; rw [List.filter_append]; simp [hxe]
            have r2 : l ++ eqL (l.take (j + 1)) (w : Int) = (l ++ eqL (l.take j) (w : Int)) ++ [(w : Int)] := by rw [ht]; unfold eqL; rw [List.filter_append]; simp [hxe]
            refine again (j + 1, c) [0, 1, 2, 3, 4, 5, 8] ⟨hjl, hlt⟩ (by show l.length - (j + 1) < l.length - j; omega) (by decide) ?_ ?_ rfl
            · try dsimp only
              rw [r1, r2]
              (repeat' (first | exact True.intro | exact Fit.dead _ | exact Fit.v _ | exact .p rfl | exact .s rfl | exact .i fun _ _ => rfl | exact fit_s rfl rfl (by simp <;> omega) | exact Fit.v' (congrArg (Value.int .i64) (nxt j (by omega)).symm) | refine And.intro ?_ ?_))
            · try dsimp only
              rw [r1, r2]
              refine ⟨⟨_, rfl, .lit (by repeat' (first | exact True.intro | exact Fit.v _ | exact row_self eRd _ | exact row_self eWn _ | refine And.intro ?_ ?_))⟩, ⟨_, rfl, .tab fun _ _ => rfl⟩, ⟨_, rfl, .tab fun _ _ => rfl⟩, ⟨_, rfl, .tabv fun k hk => ?_⟩, ⟨_, rfl, .tab fun _ _ => rfl⟩, ⟨_, rfl, .tab fun _ _ => rfl⟩, ⟨_, rfl, ?_⟩, trivial⟩
              · try dsimp only
                by_cases e : k = c0
                · simp only [if_pos e]; exact ⟨.s rfl, trivial⟩
                · simp only [if_neg e]; exact ⟨row_self eI _, trivial⟩
              · refine fit_tab (e := eI) ?_
                exact RowIs.snoc eI (RowIs.all eI (RowIs.row eI _)) rfl
          | false =>
            have hxe := of_decide_eq_false hxw
            (conv => arg 1; whnf); (repeat' (first | (refine brt (by assumption) ?_; (conv => arg 1; whnf)) | (refine brf (by assumption) ?_; (conv => arg 1; whnf)) | fail))
            (refine brt ?_ ?_; (focus (simp [Nat.ble_eq]; omega; done)); (conv => arg 1; whnf))
            (conv => arg 1; whnf); (repeat' (first | (refine brt (by assumption) ?_; (conv => arg 1; whnf)) | (refine brf (by assumption) ?_; (conv => arg 1; whnf)) | fail))
            have r1 : remL (l.take (j + 1)) (w : Int) = remL (l.take j) (w : Int) ++ [x] := by rw [ht]; unfold remL; rw [List.filter_append]; simp [hxe]
            have r2 : l ++ eqL (l.take (j + 1)) (w : Int) = l ++ eqL (l.take j) (w : Int) := by rw [ht]; unfold eqL; rw [List.filter_append]; simp [hxe]
            refine again (j + 1, hj2) [0, 1, 2, 3, 4, 8, 6] ⟨hjl, hj3⟩ (by show l.length - (j + 1) < l.length - j; omega) (by decide) ?_ ?_ rfl
            · try dsimp only
              rw [r1, r2]
              (repeat' (first | exact True.intro | exact Fit.dead _ | exact Fit.v _ | exact .p rfl | exact .s rfl | exact .i fun _ _ => rfl | exact fit_s rfl rfl (by simp <;> omega) | exact Fit.v' (congrArg (Value.int .i64) (nxt j (by omega)).symm) | refine And.intro ?_ ?_))
            · try dsimp only
              rw [r1, r2]
              refine ⟨⟨_, rfl, .lit (by repeat' (first | exact True.intro | exact Fit.v _ | exact row_self eRd _ | exact row_self eWn _ | refine And.intro ?_ ?_))⟩, ⟨_, rfl, .tab fun _ _ => rfl⟩, ⟨_, rfl, .tab fun _ _ => rfl⟩, ⟨_, rfl, .tabv fun k hk => ?_⟩, ⟨_, rfl, .tab fun _ _ => rfl⟩, ⟨_, rfl, ?_⟩, ⟨_, rfl, .tab fun _ _ => rfl⟩, trivial⟩
              · try dsimp only
                by_cases e : k = c0
                · simp only [if_pos e]; exact ⟨.s rfl, trivial⟩
                · simp only [if_neg e]; exact ⟨row_self eI _, trivial⟩
              · refine fit_tab (e := eI) ?_
                exact RowIs.snoc eI (RowIs.all eI (RowIs.row eI _)) (by rw [← hx']; rfl)
        · have hjl : j = l.length := by have := of_decide_eq_false h3; omega
          subst hjl
          (conv => arg 1; whnf); (repeat' (first | (refine brt (by assumption) ?_; (conv => arg 1; whnf)) | (refine brf (by assumption) ?_; (conv => arg 1; whnf)) | fail))
          refine leave ?_
          show tr _
          rw [List.take_length]
          have hlr : (remL l (w : Int)).length ≤ l.length := List.length_filter_le _ _
          have hle : (eqL l (w : Int)).length ≤ l.length := List.length_filter_le _ _
          have oG : (outP pl (w : Int)).getD c [] = remL l (w : Int) := by rw [outP_get hlt, ← hl]
          have tG : (twP pl (w : Int)).getD c [] = l ++ eqL l (w : Int) := by rw [twP_get hlt, ← hl]
          (conv => arg 1; whnf); (repeat' (first | (refine brt (by assumption) ?_; (conv => arg 1; whnf)) | (refine brf (by assumption) ?_; (conv => arg 1; whnf)) | fail))
          (refine brt ?_ ?_; (focus (simp [Nat.ble_eq]; omega; done)); (conv => arg 1; whnf))
          (conv => arg 1; whnf); (repeat' (first | (refine brt (by assumption) ?_; (conv => arg 1; whnf)) | (refine brf (by assumption) ?_; (conv => arg 1; whnf)) | fail))
          (refine brt ?_ ?_; (focus (simp [Nat.ble_eq]; omega; done)); (conv => arg 1; whnf))
          (conv => arg 1; whnf); (repeat' (first | (refine brt (by assumption) ?_; (conv => arg 1; whnf)) | (refine brf (by assumption) ?_; (conv => arg 1; whnf)) | fail))
          (refine brt ?_ ?_; (focus (simp [Nat.ble_eq]; omega; done)); (conv => arg 1; whnf))
          (conv => arg 1; whnf); (repeat' (first | (refine brt (by assumption) ?_; (conv => arg 1; whnf)) | (refine brf (by assumption) ?_; (conv => arg 1; whnf)) | fail))
          (refine brt ?_ ?_; (focus (simp [Nat.ble_eq]; omega; done)); (conv => arg 1; whnf))
          (conv => arg 1; whnf); (repeat' (first | (refine brt (by assumption) ?_; (conv => arg 1; whnf)) | (refine brf (by assumption) ?_; (conv => arg 1; whnf)) | fail))
          refine again (c + 1, hj2) [0, 10, 8, 14, 4] ⟨hlt, hj3⟩ (by show pl.length - (c + 1) < pl.length - c; omega) (by decide) ?_ ?_ rfl
          · (repeat' (first | exact True.intro | exact Fit.dead _ | exact Fit.v _ | exact .p rfl | exact .s rfl | exact .i fun _ _ => rfl | exact Fit.v' (congrArg (Value.int .i64) (nxt c (by omega)).symm) | refine And.intro ?_ ?_))
          · dsimp only
            rw [if_neg (show ¬ c + 1 ≤ c0 by omega)]
            refine ⟨⟨_, rfl, .lit (by repeat' (first | exact True.intro | exact Fit.v _ | exact row_self eRd _ | exact row_self eWn _ | refine And.intro ?_ ?_))⟩, ⟨_, rfl, fit_vsnoc (fun j hj => by (try dsimp only); rw [Nat.zero_add j]; exact ⟨row_self eI _, trivial⟩) rfl (by rw [tG]; exact ⟨fit_fz (e := eI) rfl rfl (by simp) (by simp) (RowIs.all eI (RowIs.row eI _)), trivial⟩) (fun k hk u hu => by obtain rfl := List.mem_singleton.1 hu; rfl)⟩, ⟨_, rfl, fit_vsnoc (fun j hj => by (try dsimp only); rw [Nat.zero_add j]; exact ⟨row_self eI _, trivial⟩) rfl (by rw [oG]; exact ⟨fit_fz (e := eI) rfl rfl (by simp) (by simp) (RowIs.all eI (RowIs.row eI _)), trivial⟩) (fun k hk u hu => by obtain rfl := List.mem_singleton.1 hu; rfl)⟩, ⟨_, rfl, fit_vvsnoc (fun j hj => ?_) rfl ?_⟩, ⟨_, rfl, .tab fun _ _ => rfl⟩, trivial⟩
            · try dsimp only
              rw [Nat.zero_add j]
              by_cases e : j = c0
              · simp only [if_pos e]; exact ⟨.s rfl, trivial⟩
              · simp only [if_neg e]; exact ⟨row_self eI _, trivial⟩
            · try dsimp only
              rw [if_neg (by omega), oG]
              exact ⟨fit_fz (e := eI) rfl rfl (by simp) (by simp) (RowIs.all eI (RowIs.joined eI (RowIs.nil eI _) (RowIs.all eI (RowIs.row eI _)))), trivial⟩
      · have hcn : c = pl.length := by have := of_decide_eq_false h2; omega
        subst hcn
        obtain ⟨qo, hqo⟩ : ∃ q, q = outP pl (w : Int) := ⟨_, rfl⟩
        obtain ⟨qt, hqt⟩ : ∃ q, q = twP pl (w : Int) := ⟨_, rfl⟩
        have hls : ∀ l ∈ pl, l.length ≤ 200 := g4
        have lo : qo.length = pl.length := by rw [hqo]; exact outP_len _ _
        have lt : qt.length = pl.length := by rw [hqt]; exact twP_len _ _
        have bo : ∀ l ∈ qo, l.length ≤ 1000 := by
          intro x hx
          rw [hqo] at hx
          obtain ⟨y, hy, rfl⟩ := List.mem_map.1 hx
          have := hls y hy
          exact Nat.le_trans (List.length_filter_le _ _) (by omega)
        have bt : ∀ l ∈ qt, l.length ≤ 1000 := by
          intro x hx
          rw [hqt] at hx
          obtain ⟨y, hy, rfl⟩ := List.mem_map.1 hx
          have := hls y hy
          have h3 : (eqL y (w : Int)).length ≤ y.length := List.length_filter_le _ _
          simp only [List.length_append]; omega
        have fo : feasB p.rd (rowsRR eI pl.length fun k => [row eI (qo.getD (0 + k) [])]) = false := by rw [p.rd_eq, rowsN lo, hqo]; exact out_not hwl
        have ft : feasB p.rd (rowsRR eI pl.length fun k => [row eI (qt.getD (0 + k) [])]) = false := by rw [p.rd_eq, rowsN lt, hqt]; exact tw_not hfea hwl
        rw [← hqo, ← hqt]
        have q7 : (!(decide ((pl.length : Int) = 0))) = true := by rw [decide_eq_false (by omega)]; rfl
        have q8 : (decide (0 ≤ (c0 : Int)) && decide ((c0 : Int) < (pl.length : Int))) = true := by simp only [Bool.and_eq_true, decide_eq_true_eq]; omega
        (conv => arg 1; whnf); (repeat' (first | (refine brt (by assumption) ?_; (conv => arg 1; whnf)) | (refine brf (by assumption) ?_; (conv => arg 1; whnf)) | fail))
        refine leave ?_
        show tr _
        (conv => arg 1; whnf); (repeat' (first | (refine brt (by assumption) ?_; (conv => arg 1; whnf)) | (refine brf (by assumption) ?_; (conv => arg 1; whnf)) | fail))
        (refine brt ?_ ?_; (focus (exact and2 (all2 rfl (decide_eq_true (by omega : 0 + pl.length ≤ pl.length))) (and2 (and2 (leN lo bo) (condN lo hp3 bo)) (snapRows hp1 hp2)); done)); (conv => arg 1; whnf))
        rw [fo]
        (conv => arg 1; whnf); (repeat' (first | (refine brt (by assumption) ?_; (conv => arg 1; whnf)) | (refine brf (by assumption) ?_; (conv => arg 1; whnf)) | fail))
        (refine brt ?_ ?_; (focus (exact and2 (all2 rfl (decide_eq_true (by omega : 0 + pl.length ≤ pl.length))) (and2 (and2 (leN lt bt) (condN lt hp3 bt)) (snapRows hp1 hp2)); done)); (conv => arg 1; whnf))
        rw [ft]
        (conv => arg 1; whnf); (repeat' (first | (refine brt (by assumption) ?_; (conv => arg 1; whnf)) | (refine brf (by assumption) ?_; (conv => arg 1; whnf)) | fail))
        rw [hc0]
        (conv => arg 1; whnf); (repeat' (first | (refine brt (by assumption) ?_; (conv => arg 1; whnf)) | (refine brf (by assumption) ?_; (conv => arg 1; whnf)) | fail))
        obtain ⟨ql, hql⟩ : ∃ q, q = (outP pl (w : Int)).set c0 (remL (pl.getD c0 []) (w : Int) ++ [(w : Int)]) := ⟨_, rfl⟩
        refine joinIn (fun _ : Unit => True) (fun _ => frm 173 [(1, rrow eI pl), (4, .p 0 0), (9, i64 w), (12, .s 1 1 0 pl.length), (13, i64 hm), (20, i64 c0)]) (fun _ => [.lit (snapC p), .tab 1 pl.length fun j => [row eI (ql.getD j [])]]) ?_ (fun _ _ => ?_)
        · have e9 : 0 + (c0 : Int).toNat = c0 := by omega
          have q9 : decide (0 + (c0 : Int).toNat < pl.length) = true := decide_eq_true (by omega)
          (conv => arg 1; whnf); (repeat' (first | (refine brt (by assumption) ?_; (conv => arg 1; whnf)) | (refine brf (by assumption) ?_; (conv => arg 1; whnf)) | fail))
          conv in (aOp _ _ _ _) => tactic => exact ldTabv (e := ⟨te33.t, te33.td, te33.size, te33.bytes, te33.zero, false⟩) (u := .s 4 1 0 (remL (pl.getD c0 []) (w : Int)).length) rfl rfl rfl rfl (by rw [if_pos e9])
          (conv => arg 1; whnf); (repeat' (first | (refine brt (by assumption) ?_; (conv => arg 1; whnf)) | (refine brf (by assumption) ?_; (conv => arg 1; whnf)) | fail))
          (refine brt ?_ ?_; (focus (have hz := bo _ (mem_getD (d := []) (show c0 < qo.length by omega)); rw [hqo, outP_get hcl] at hz; simp only [Nat.ble_eq, Bool.and_eq_true]; omega; done)); (conv => arg 1; whnf))
          (conv => arg 1; whnf); (repeat' (first | (refine brt (by assumption) ?_; (conv => arg 1; whnf)) | (refine brf (by assumption) ?_; (conv => arg 1; whnf)) | fail))
          refine joinTo () [0, 3] trivial (by decide) ?_ ?_ rfl
          · (repeat' (first | exact True.intro | exact Fit.dead _ | exact Fit.v _ | exact .p rfl | exact .s rfl | exact .i fun _ _ => rfl | refine And.intro ?_ ?_))
          · refine ⟨⟨_, rfl, .lit (by repeat' (first | exact True.intro | exact Fit.v _ | exact row_self eRd _ | exact row_self eWn _ | refine And.intro ?_ ?_))⟩, ⟨_, rfl, fit_putv (c := c0) rfl e9 (by rw [if_pos rfl]; rfl) ?_ (fun i hi e => ?_) (fun k hk u hu => by obtain rfl := List.mem_singleton.1 hu; rfl)⟩, trivial⟩
            · rw [hql, set_get_rows (by rw [outP_len]; exact hcl), if_pos rfl]
              exact ⟨fit_fz (e := eI) rfl rfl (by simp) (by simp) (RowIs.all eI (RowIs.snoc eI (RowIs.all eI (RowIs.row eI _)) rfl)), trivial⟩
            · rw [hql, set_get_rows (by rw [outP_len]; exact hcl), if_neg e, if_neg e, hqo]
              exact ⟨row_self eI _, trivial⟩
        · have lq : ql.length = pl.length := by rw [hql, List.length_set, outP_len]
          have bq : ∀ l ∈ ql, l.length ≤ 1000 := by
            intro x hx
            rw [hql] at hx
            rcases List.mem_or_eq_of_mem_set hx with h | rfl
            · exact bo x (by rw [hqo]; exact h)
            · have := bo _ (mem_getD (d := []) (show c0 < qo.length by omega))
              rw [hqo, outP_get hcl] at this
              rw [hqo] at bo
              have h2 : (remL (pl.getD c0 []) (w : Int)).length ≤ (pl.getD c0 []).length := List.length_filter_le _ _
              have h3 := hls _ (mem_getD (d := []) hcl)
              simp only [List.length_append, List.length_singleton]; omega
          have hodd := odd_iff hfea hwl hcl
          rw [← hql] at hodd
          have hmay : decide (bits .and .i64 ((p.ws.getD (w : Int).toNat eWn.dflt).ca.fdiv (2 ^ min (c0 : Int).toNat IntKind.i64.bits)) 1 = 1) = mayB (p.ws.getD w eWn.dflt).ca c0 := by
            rw [and1, Nat.min_eq_left (show (c0 : Int).toNat ≤ IntKind.i64.bits by show (c0 : Int).toNat ≤ 64; omega), Int.fdiv_eq_ediv_of_nonneg _ (Int.le_of_lt (Int.pow_pos (by decide)))]
            rfl
          have f1 : (decide (0 ≤ (w : Int)) && decide ((w : Int) < (p.ws.length : Int))) = true := by simp only [Bool.and_eq_true, decide_eq_true_eq]; omega
          have f2 : decide (0 ≤ (c0 : Int)) = true := decide_eq_true (by omega)
          have fq : feasB p.rd (rowsRR eI pl.length fun k => [row eI (ql.getD (0 + k) [])]) = feasB p ql := by rw [p.rd_eq, rowsN lq]
          have f3 := and2 (a := [p.av, .s 1 1 0 pl.length].all (vokD [.lit (snapC p), .tab 1 pl.length fun j => [row eI (ql.getD j [])]])) (all2 rfl (decide_eq_true (by omega : 0 + pl.length ≤ pl.length))) (and2 (and2 (leN lq bq) (condN lq hp3 bq)) (snapRows hp1 hp2))
          have f4 : (!(feasB p.rd (rowsRR eI pl.length fun k => [row eI (ql.getD (0 + k) [])]) == decide (bits .and .i64 ((p.ws.getD (w : Int).toNat eWn.dflt).ca.fdiv (2 ^ min (c0 : Int).toNat IntKind.i64.bits)) 1 = 1))) = false := by rw [fq, hodd, hmay]; simp
          obtain ⟨l, hl⟩ : ∃ l, l = pl.getD hm [] := ⟨_, rfl⟩
          have eh : (hm : Int).toNat = hm := by omega
          have hl' : pl.getD (hm : Int).toNat [] = l := by rw [eh, hl]
          have hll : l.length ≤ 200 := by rw [hl]; exact g4 _ (mem_getD hh)
          have f5 : (decide (0 ≤ (hm : Int)) && decide ((hm : Int) < (pl.length : Int))) = true := by simp only [Bool.and_eq_true, decide_eq_true_eq]; omega
          have f6 : ((0 + 0).ble 0 && (true && (0 + l.length).ble 4294967295)) = true := by simp [Nat.ble_eq]; omega
          (conv => arg 1; whnf); (repeat' (first | (refine brt (by assumption) ?_; (conv => arg 1; whnf)) | (refine brf (by assumption) ?_; (conv => arg 1; whnf)) | fail))
          rw [hl']
          (conv => arg 1; whnf); (repeat' (first | (refine brt (by assumption) ?_; (conv => arg 1; whnf)) | (refine brf (by assumption) ?_; (conv => arg 1; whnf)) | fail))
          refine loopIn (fun i : Nat => 2 * i ≤ l.length + 1) (fun i => frm 173 [(1, rrow eI pl), (4, .p 0 0), (13, i64 hm), (21, .s 1 1 0 l.length), (22, i64 i), (23, i64 ((l.length : Int) - 1 - (i : Int)))]) (fun i => [.lit (snapC p), .tab 1 l.length fun j => eI.enc ((revL l i).getD j eI.dflt)]) (fun i => l.length - i) 0 [0, 3] (Nat.zero_le _) (by decide) ?_ ?_ rfl fun i hi => ?_
          · (repeat' (first | exact True.intro | exact Fit.dead _ | exact Fit.v _ | exact .p rfl | exact .s rfl | exact .i fun _ _ => rfl | exact fit_s rfl rfl (Nat.zero_add _).symm | exact Fit.v' (congrArg (Value.int .i64) (by rw [Nat.zero_add, i64w _ (by omega) (by omega)]; omega)) | refine And.intro ?_ ?_))
          · refine ⟨⟨_, rfl, .lit (by repeat' (first | exact True.intro | exact Fit.v _ | exact row_self eRd _ | exact row_self eWn _ | refine And.intro ?_ ?_))⟩, ⟨_, rfl, ?_⟩, trivial⟩
            rw [revL_zero]
            exact fit_tab (e := eI) (RowIs.joined eI (RowIs.nil eI _) (RowIs.row eI l))
          have hi : 2 * i ≤ l.length + 1 := hi
          (conv => arg 1; whnf)
          refine br (fun h3 => ?_) (fun h3 => ?_)
          · have h3' : (i : Int) < (l.length : Int) - 1 - (i : Int) := of_decide_eq_true h3
            have y1 : (decide (0 ≤ (i : Int)) && decide ((i : Int) < (l.length : Int))) = true := by simp only [Bool.and_eq_true, decide_eq_true_eq]; omega
            have y2 : (decide (0 ≤ (l.length : Int) - 1 - (i : Int)) && decide ((l.length : Int) - 1 - (i : Int) < (l.length : Int))) = true := by simp only [Bool.and_eq_true, decide_eq_true_eq]; omega
            have y3 : decide (0 + (i : Int).toNat < l.length) = true := decide_eq_true (by omega)
            have y4 : decide (0 + ((l.length : Int) - 1 - (i : Int)).toNat < l.length) = true := decide_eq_true (by omega)
            (conv => arg 1; whnf); (repeat' (first | (refine brt (by assumption) ?_; (conv => arg 1; whnf)) | (refine brf (by assumption) ?_; (conv => arg 1; whnf)) | fail))
            refine again (i + 1) [0, 1] (by show 2 * (i + 1) ≤ l.length + 1; omega) (by show l.length - (i + 1) < l.length - i; omega) (by decide) ?_ ?_ rfl
            · (repeat' (first | exact True.intro | exact Fit.dead _ | exact Fit.v _ | exact .p rfl | exact .s rfl | exact .i fun _ _ => rfl | exact Fit.v' (congrArg (Value.int .i64) (nxt i (by omega)).symm) | exact Fit.v' (congrArg (Value.int .i64) (by rw [i64w _ (by omega) (by omega)]; omega)) | refine And.intro ?_ ?_))
            · refine ⟨⟨_, rfl, .lit (by repeat' (first | exact True.intro | exact Fit.v _ | exact row_self eRd _ | exact row_self eWn _ | refine And.intro ?_ ?_))⟩, ⟨_, rfl, .tab fun j hj => ?_⟩, trivial⟩
              have hs : (revL l (i + 1)).getD j eI.dflt = if j = l.length - 1 - i then (revL l i).getD i eI.dflt else if j = i then (revL l i).getD (l.length - 1 - i) eI.dflt else (revL l i).getD j eI.dflt := revL_step (l := l) (i := i) (j := j) (by omega) hj
              rw [hs, show 0 + (i : Int).toNat = i by omega, show 0 + ((l.length : Int) - 1 - (i : Int)).toNat = l.length - 1 - i by omega]
              dsimp only
              by_cases c1 : j = l.length - 1 - i
              · rw [if_pos c1, if_pos c1, if_neg (show ¬ j = i by omega)]; rfl
              · rw [if_neg c1, if_neg c1]
                by_cases c2 : j = i
                · rw [if_pos c2, if_pos c2]; rfl
                · rw [if_neg c2, if_neg c2]
          · have h3' : ¬ (i : Int) < (l.length : Int) - 1 - (i : Int) := of_decide_eq_false h3
            rw [revL_end (show l.length ≤ 2 * i + 1 by omega)]
            have z1 : ((0 + 0).ble 0 && (true && (0 + pl.length).ble 4294967295)) = true := by simp [Nat.ble_eq]; omega
            have f5 : (decide (0 ≤ (hm : Int)) && decide ((hm : Int) < ((0 + pl.length : Nat) : Int))) = true := by simp only [Bool.and_eq_true, decide_eq_true_eq]; omega
            have f7 : decide (0 + (hm : Int).toNat < 0 + pl.length) = true := decide_eq_true (by omega)
            (conv => arg 1; whnf); (repeat' (first | (refine brt (by assumption) ?_; (conv => arg 1; whnf)) | (refine brf (by assumption) ?_; (conv => arg 1; whnf)) | fail))
            refine leave ?_
            show tr _
            (conv => arg 1; whnf); (repeat' (first | (refine brt (by assumption) ?_; (conv => arg 1; whnf)) | (refine brf (by assumption) ?_; (conv => arg 1; whnf)) | fail))
            obtain ⟨qq, hqq⟩ : ∃ q, q = pl.set hm l.reverse := ⟨_, rfl⟩
            refine joinIn (fun _ : Unit => True) (fun _ => frm 173 [(4, .p 0 0), (24, .s 1 1 0 pl.length)]) (fun _ => [.lit (snapC p), .tab 1 pl.length fun j => [row eI (qq.getD j [])]]) ?_ (fun _ _ => ?_)
            · (conv => arg 1; whnf); (repeat' (first | (refine brt (by assumption) ?_; (conv => arg 1; whnf)) | (refine brf (by assumption) ?_; (conv => arg 1; whnf)) | fail))
              refine joinTo () [0, 3] trivial (by decide) ?_ ?_ rfl
              · (repeat' (first | exact True.intro | exact Fit.dead _ | exact Fit.v _ | exact .p rfl | exact .s rfl | exact .i fun _ _ => rfl | exact fit_s rfl rfl (Nat.zero_add _).symm | refine And.intro ?_ ?_))
              · refine ⟨⟨_, rfl, .lit (by repeat' (first | exact True.intro | exact Fit.v _ | exact row_self eRd _ | exact row_self eWn _ | refine And.intro ?_ ?_))⟩, ⟨_, rfl, fit_putv (c := hm) (Nat.zero_add _).symm (by omega) (by rw [joined_zero]; rfl) ?_ (fun i hi e => ?_) (fun k hk u hu => by obtain rfl := List.mem_singleton.1 hu; rfl)⟩, trivial⟩
                · rw [hqq, set_get_rows hh, if_pos rfl]
                  refine ⟨fit_fz (e := eI) rfl rfl (by simp) (by simp) ?_, trivial⟩
                  have := RowIs.all eI (RowIs.row eI l.reverse)
                  rw [List.length_reverse] at this
                  exact this
                · rw [hqq, set_get_rows hh, if_neg e, joined_zero]
                  exact ⟨row_self eI _, trivial⟩
            · have lz : qq.length = pl.length := by rw [hqq, List.length_set]
              have bz : ∀ l ∈ qq, l.length ≤ 1000 := by
                intro x hx
                rw [hqq] at hx
                rcases List.mem_or_eq_of_mem_set hx with h | rfl
                · have := hls x h; omega
                · rw [List.length_reverse]; omega
              have hturn := turn_feas hfea hh
              rw [← hl, ← hqq] at hturn
              (conv => arg 1; whnf); (repeat' (first | (refine brt (by assumption) ?_; (conv => arg 1; whnf)) | (refine brf (by assumption) ?_; (conv => arg 1; whnf)) | fail))
              (refine brt ?_ ?_; (focus (exact and2 (all2 rfl (decide_eq_true (by omega : 0 + pl.length ≤ pl.length))) (and2 (and2 (leN lz bz) (condN lz hp3 bz)) (snapRows hp1 hp2)); done)); (conv => arg 1; whnf))
              refine finB ?_
              show true = feasB p.rd (rowsRR eI pl.length fun k => [row eI (qq.getD (0 + k) [])])
              rw [p.rd_eq, rowsN lz, hturn]
end Go.Proofs.Ytglpeibbkkikgaa.E
