/- The law RouteLater, by the engine. -/
import Derived.Test.YtglpeibbkkikgaaRouteNextE
namespace Go.Proofs.Ytglpeibbkkikgaa.E
open Go NumMath
set_option linter.unusedSimpArgs false
set_option linter.unusedVariables false
set_option maxRecDepth 100000
set_option maxHeartbeats 8000000
theorem mem_getD {α : Type} {l : List α} {j : Nat} {d : α} (h : j < l.length) : l.getD j d ∈ l := by
  rw [List.getD_eq_getElem?_getD, List.getElem?_eq_getElem h]; exact List.getElem_mem h
/-! ### When a want is served -/
theorem tpre_fst {p : Snap} {pl : List (List Int)} : ∀ c, c ≤ pl.length → (tpre p pl c 0).map (·.1) = (pre pl c 0).map (·.1) ∧ ∀ j, c < pl.length → j ≤ (pl.getD c []).length → (tpre p pl c j).map (·.1) = (pre pl c j).map (·.1) := by
  have inner : ∀ c, c < pl.length → (tpre p pl c 0).map (·.1) = (pre pl c 0).map (·.1) → ∀ j, j ≤ (pl.getD c []).length → (tpre p pl c j).map (·.1) = (pre pl c j).map (·.1) := by
    intro c hc h0 j
    induction j with
    | zero => intro _; exact h0
    | succ j ih =>
      intro hj
      rw [tpre_step, pre_step (by omega), List.map_append, List.map_append, ih (by omega)]
      rfl
  intro c
  induction c with
  | zero =>
    intro _
    have h0 : (tpre p pl 0 0).map (·.1) = (pre pl 0 0).map (·.1) := by rw [tpre_zero, pre_zero]; rfl
    exact ⟨h0, fun j hc hj => inner 0 hc h0 j hj⟩
  | succ c ih =>
    intro hc
    have h1 := (ih (by omega)).2 (pl.getD c []).length (by omega) (Nat.le_refl _)
    rw [tpre_next, pre_next (by omega)] at h1
    exact ⟨h1, fun j hc' hj => inner (c + 1) hc' h1 j hj⟩
theorem tpre_mono {p : Snap} {pl : List (List Int)} {c : Nat} : ∀ d, ∃ r, tpre p pl (c + d) 0 = tpre p pl c 0 ++ r := by
  intro d
  induction d with
  | zero => exact ⟨[], by simp⟩
  | succ d ih =>
    obtain ⟨r, hr⟩ := ih
    refine ⟨r ++ tc p pl (c + d) (pl.getD (c + d) []).length, ?_⟩
    rw [show c + (d + 1) = (c + d) + 1 by omega, ← tpre_next]
    have : tpre p pl (c + d) (pl.getD (c + d) []).length = tpre p pl (c + d) 0 ++ tc p pl (c + d) (pl.getD (c + d) []).length := by simp [tpre, tc]
    rw [this, hr, List.append_assoc]
theorem tpre_rest {p : Snap} {pl : List (List Int)} {c j : Nat} (hc : c < pl.length) (hj : j ≤ (pl.getD c []).length) : ∃ r, tpre p pl pl.length 0 = tpre p pl c j ++ r := by
  obtain ⟨r, hr⟩ := tpre_mono (p := p) (pl := pl) (c := c + 1) (pl.length - (c + 1))
  rw [show c + 1 + (pl.length - (c + 1)) = pl.length by omega, ← tpre_next] at hr
  have : ∃ r', tpre p pl c (pl.getD c []).length = tpre p pl c j ++ r' := by
    refine ⟨(tc p pl c (pl.getD c []).length).drop j, ?_⟩
    have e : tc p pl c j = (tc p pl c (pl.getD c []).length).take j := by
      unfold tc
      rw [← List.map_take, List.take_range, Nat.min_eq_left hj]
    unfold tpre
    rw [e, List.append_assoc, List.take_append_drop]
  obtain ⟨r', hr'⟩ := this
  exact ⟨r' ++ r, by rw [hr, hr', List.append_assoc]⟩
theorem asg_last {A B : List (Int × Int)} {w t : Int} {i : Nat} (hw : w = (i : Int)) (h : ∀ e ∈ B, e.1 ≠ w) : asg (A ++ [(w, t)] ++ B) i = t := by
  unfold asg
  rw [List.foldl_append, List.foldl_append]
  simp only [List.foldl_cons, List.foldl_nil, hw, if_true]
  induction B with
  | nil => rfl
  | cons e B ih =>
    simp only [List.foldl_cons]
    rw [if_neg (by rw [← hw]; exact h e List.mem_cons_self)]
    exact ih fun e he => h e (List.mem_cons_of_mem _ he)
/-- When a want is served by a plan that may be. -/
theorem wait_at {p : Snap} {pl : List (List Int)} (hf : feasB p pl = true) {c j : Nat} (hc : c < pl.length) (hj : j < (pl.getD c []).length) : 0 ≤ (pl.getD c []).getD j 0 ∧ (pl.getD c []).getD j 0 < (p.ws.length : Int) ∧ (waitsL p pl).getD ((pl.getD c []).getD j 0).toNat 0 = (stAt p c (pl.getD c []) (j + 1)).he := by
  obtain ⟨hr, hpl, hent, hone⟩ := feas_ent hf
  have hg := good_bd (hent c j hc hj)
  refine ⟨hg.1, hg.2, ?_⟩
  unfold waitsL
  rw [asgOf_get _ _ (by omega)]
  obtain ⟨r, hr⟩ := tpre_rest (p := p) hc (j := j + 1) (by omega)
  rw [hr, tpre_step]
  refine asg_last (by omega) fun e he => ?_
  intro e1
  have hcnt := hone ((pl.getD c []).getD j 0).toNat (by omega)
  have hfst : (tpre p pl pl.length 0).map (·.1) = (ents 0 pl).map (·.1) := by rw [(tpre_fst (p := p) pl.length (Nat.le_refl _)).1, pre_end]
  have hc1 : cnt (ents 0 pl) ((pl.getD c []).getD j 0).toNat = ((ents 0 pl).map (·.1)).countP fun x => decide (x = (((pl.getD c []).getD j 0).toNat : Int)) := by
    unfold cnt
    rw [List.countP_map]
    rfl
  rw [hc1, ← hfst, hr, tpre_step] at hcnt
  simp only [List.map_append, List.countP_append, List.map_cons, List.map_nil, List.countP_cons, List.countP_nil] at hcnt
  have hw0 : (pl.getD c []).getD j 0 = (((pl.getD c []).getD j 0).toNat : Int) := by have := hg.1; omega
  rw [if_pos (decide_eq_true hw0)] at hcnt
  have hpos : 0 < (r.map (·.1)).countP fun x => decide (x = (((pl.getD c []).getD j 0).toNat : Int)) := List.countP_pos_iff.2 ⟨e.1, List.mem_map.2 ⟨e, he, rfl⟩, decide_eq_true (by rw [e1]; exact hw0)⟩
  omega
/-! ### A car that goes on later -/
def laterS (p : Snap) (c : Nat) (n : Int) : Snap := ⟨p.s, p.cs.set c ⟨(p.cs.getD c eRd.dflt).fl, (p.cs.getD c eRd.dflt).af + n⟩, p.ws⟩
theorem later_get {p : Snap} {c : Nat} {n : Int} (hc : c < p.cs.length) (i : Nat) : (laterS p c n).cs.getD i eRd.dflt = if i = c then ⟨(p.cs.getD c eRd.dflt).fl, (p.cs.getD c eRd.dflt).af + n⟩ else p.cs.getD i eRd.dflt := by
  simp only [laterS, List.getD_eq_getElem?_getD, List.getElem?_set]
  by_cases h : c = i
  · subst h; simp [hc]
  · rw [if_neg h, if_neg (Ne.symm h)]
theorem later_feas {p : Snap} {pl : List (List Int)} {c : Nat} {n : Int} (hc : c < p.cs.length) (hn : 0 ≤ n) (hm : (p.cs.getD c eRd.dflt).af + n ≤ 1000000) (hf : feasB p pl = true) : feasB (laterS p c n) pl = true := by
  obtain ⟨hr, hpl, hent, hone⟩ := feas_ent hf
  obtain ⟨b1, b2, b3, b4, b5⟩ := Snap.right_bd hr
  have hr' : (laterS p c n).right = true := by
    refine Snap.yes b1 (decide_eq_true (by simp only [laterS, List.length_set]; exact b2)) b3 (fun j hj => ?_) fun j hj => b5 (p.ws.getD j eWn.dflt) (mem_getD (show j < p.ws.length from hj))
    have hj : j < p.cs.length := by simpa [laterS] using hj
    rw [later_get hc]
    have hk := b4 (p.cs.getD j eRd.dflt) (by rw [List.getD_eq_getElem?_getD, List.getElem?_eq_getElem hj]; exact List.getElem_mem hj)
    split
    · rename_i e
      subst e
      unfold rdOk at hk ⊢
      simp only [Bool.and_eq_true, decide_eq_true_eq] at hk ⊢
      exact ⟨hk.1, by omega, hm⟩
    · exact hk
  unfold feasB at hf ⊢
  simp only [Bool.and_eq_true] at hf ⊢
  refine ⟨hr', ?_, hf.2.2.1, hf.2.2.2⟩
  simp only [laterS, List.length_set]
  exact hf.2.1
/-- So many ticks later. -/
def Stp.late (a : Stp) (n : Int) : Stp := ⟨a.fl, if a.he = -1 then -1 else a.he + n, a.lv + n⟩
theorem nextS_same {s : Site} {a : Stp} {f : Int} (h : ¬ a.he = -1) (h' : a.fl = f) : nextS s a f = a := by unfold nextS; rw [decide_eq_false h, decide_eq_true h']; rfl
theorem nextS_go {s : Site} {a : Stp} {f : Int} (h : a.he = -1 ∨ ¬ a.fl = f) : nextS s a f = ⟨f, a.lv + s.travel a.fl f, a.lv + s.travel a.fl f + s.op + s.wa + s.cl + 2⟩ := by
  unfold nextS
  rcases h with h | h
  · rw [decide_eq_true h]; rfl
  · rw [decide_eq_false h]
    cases decide (a.he = -1) <;> rfl
theorem next_late {s : Site} (hs : s.right = true) {a : Stp} {f n : Int} (hn : 0 ≤ n) (h : 0 ≤ a.lv ∧ -1 ≤ a.he) : nextS s (a.late n) f = (nextS s a f).late n := by
  have ht := Site.travel_bd hs a.fl f
  by_cases h1 : a.he = -1
  · rw [nextS_go (.inl h1), nextS_go (.inl (by show (if a.he = -1 then -1 else a.he + n) = -1; rw [if_pos h1]))]
    simp only [Stp.late]
    rw [if_neg (by omega)]
    simp only [Stp.mk.injEq, true_and]
    omega
  · have hl : (a.late n).he = a.he + n := by show (if a.he = -1 then -1 else a.he + n) = _; rw [if_neg h1]
    by_cases h2 : a.fl = f
    · rw [nextS_same h1 h2, nextS_same (by rw [hl]; omega) (show (a.late n).fl = f from h2)]
    · rw [nextS_go (.inr h2), nextS_go (.inr (show ¬ (a.late n).fl = f from h2))]
      simp only [Stp.late]
      rw [if_neg (by omega)]
      simp only [Stp.mk.injEq, true_and]
      omega
theorem later_st {p : Snap} {c : Nat} {n : Int} (hr : p.right = true) (hc : c < p.cs.length) (hn : 0 ≤ n) {l : List Int} {i : Nat} (hi : i < p.cs.length) : ∀ j, j ≤ l.length → stAt (laterS p c n) i l j = if i = c then (stAt p i l j).late n else stAt p i l j := by
  intro j
  induction j with
  | zero =>
    intro _
    rw [stAt_zero, stAt_zero, later_get hc]
    by_cases h : i = c
    · subst h; simp [beginS, Stp.late]
    · rw [if_neg h, if_neg h]
  | succ j ih =>
    intro hj
    obtain ⟨s1, s2, s3, s4, s5⟩ := stAt_bd hr hi l j (by omega)
    rw [stAt_succ _ _ (by omega), stAt_succ _ _ (by omega), ih (by omega)]
    by_cases h : i = c
    · simp only [if_pos h]
      show nextS p.s _ (flr p (l.getD j 0)) = _
      exact next_late (Snap.right_bd hr).1 hn ⟨s1, s3⟩
    · simp only [if_neg h]
      rfl

/-! ### The walk -/
noncomputable def XLL : Cx := (XL1.join 103).join 200010
theorem XLL_ok : CxOk Try.prog XLL := (XL1_ok.join 103 rfl).join 200010 rfl
theorem RouteLater (us : List AV) (h : areArgs tt [27, 29, 3, 3] us) : ∃ us', FitL [] [] us' us ∧ runF XLL Try.f7 us' [] (boo true) [] := by
  obtain ⟨_, _, rfl, hs, _, _, rfl, ha, _, _, rfl, hb, _, _, rfl, hd, rfl⟩ := h
  obtain ⟨p, rfl, hp1, hp2⟩ := snap_arg hs
  obtain ⟨pl, hf, hp3, hp4⟩ := plan_arg ha
  obtain ⟨car, rfl, _, _⟩ := int_arg hb
  obtain ⟨later, rfl, _, _⟩ := int_arg hd
  refine ⟨[p.av, rrow eI pl, i64 car, i64 later], ⟨Fit.al (by repeat' (first | exact True.intro | exact Fit.v _ | exact row_self eRd _ | exact row_self eWn _ | refine And.intro ?_ ?_)), hf, .v _, .v _, trivial⟩, ?_⟩
  clear hs ha hf hb hd
  have fe : feasB p.rd (rowsRR eI pl.length fun k => [row eI (pl.getD k [])]) = feasB p pl := by rw [p.rd_eq, rowsRR_row]
  unfold runF
  (conv => arg 1; whnf); (repeat' (first | (refine brt (by assumption) ?_; (conv => arg 1; whnf)) | (refine brf (by assumption) ?_; (conv => arg 1; whnf)) | fail))
  (refine brt ?_ ?_; (focus (exact and2 rfl (and2 (and2 rfl (planRows hp3 hp4)) (snapRows hp1 hp2)); done)); (conv => arg 1; whnf))
  refine br (fun h => ?_) (fun h => ?_)
  · (conv => arg 1; whnf); (repeat' (first | (refine brt (by assumption) ?_; (conv => arg 1; whnf)) | (refine brf (by assumption) ?_; (conv => arg 1; whnf)) | fail))
    exact finB rfl
  · have h' : greatB p.rd (rowsRR eI pl.length fun k => [row eI (pl.getD k [])]) = false := h
    rw [p.rd_eq, rowsRR_row] at h'
    obtain ⟨g1, g2, g3, g4⟩ := great_no h'
    have hls : ∀ l ∈ pl, l.length ≤ 1000 := fun l hl => by have := g4 l hl; omega
    have hls' : (pl.all fun l => decide (l.length ≤ 1000)) = true := List.all_eq_true.2 fun l hl => decide_eq_true (hls l hl)
    have C1 := and2 (and2 (a := (rowsRR eI pl.length fun k => [row eI (pl.getD k [])]).all fun l => decide (l.length ≤ 1000)) (by rw [rowsRR_row]; exact hls') (planRows hp3 hp4)) (snapRows hp1 hp2)
    (conv => arg 1; whnf); (repeat' (first | (refine brt (by assumption) ?_; (conv => arg 1; whnf)) | (refine brf (by assumption) ?_; (conv => arg 1; whnf)) | fail))
    refine br (fun h1 => ?_) (fun h1 => ?_)
    · (conv => arg 1; whnf); (repeat' (first | (refine brt (by assumption) ?_; (conv => arg 1; whnf)) | (refine brf (by assumption) ?_; (conv => arg 1; whnf)) | fail))
      exact finB rfl
    · have h1 : (!(feasB p.rd (rowsRR eI pl.length fun k => [row eI (pl.getD k [])]))) = false := h1
      rw [fe] at h1
      have hfea : feasB p pl = true := by simpa using h1
      obtain ⟨hr, hpl, hent, hone⟩ := feas_ent hfea
      obtain ⟨b1, b2, b3, b4, b5⟩ := Snap.right_bd hr
      have hb := Site.right_bd b1
      have q0 : (!(decide ((p.cs.length : Int) = 0))) = true := by rw [decide_eq_false (by omega : ¬ (p.cs.length : Int) = 0)]; rfl
      obtain ⟨c, hc, hcl⟩ : ∃ c : Nat, (bits .and .i64 car 65535).tmod (p.cs.length : Int) = (c : Int) ∧ c < p.cs.length := by
        rw [and65535]
        have h0 : 0 ≤ car % 65536 := Int.emod_nonneg _ (by decide)
        rw [Int.tmod_eq_emod_of_nonneg h0]
        have h2 := Int.emod_nonneg (car % 65536) (show (p.cs.length : Int) ≠ 0 by omega)
        have h3 := Int.emod_lt_of_pos (car % 65536) (show 0 < (p.cs.length : Int) by omega)
        exact ⟨((car % 65536) % (p.cs.length : Int)).toNat, by omega, by omega⟩
      obtain ⟨n, hn, hn0, hn1⟩ : ∃ n : Int, bits .and .i64 later 255 = n ∧ 0 ≤ n ∧ n ≤ 255 := ⟨_, rfl, by rw [and255]; omega, by rw [and255]; omega⟩
      have ec : (c : Int).toNat = c := by omega
      have q1 : (decide (0 ≤ (c : Int)) && decide ((c : Int) < (p.cs.length : Int))) = true := by simp only [Bool.and_eq_true, decide_eq_true_eq]; omega
      (conv => arg 1; whnf); (repeat' (first | (refine brt (by assumption) ?_; (conv => arg 1; whnf)) | (refine brf (by assumption) ?_; (conv => arg 1; whnf)) | fail))
      rw [hc]
      (conv => arg 1; whnf); (repeat' (first | (refine brt (by assumption) ?_; (conv => arg 1; whnf)) | (refine brf (by assumption) ?_; (conv => arg 1; whnf)) | fail))
      refine br (fun h2 => ?_) (fun h2 => ?_)
      · (conv => arg 1; whnf); (repeat' (first | (refine brt (by assumption) ?_; (conv => arg 1; whnf)) | (refine brf (by assumption) ?_; (conv => arg 1; whnf)) | fail))
        exact finB rfl
      · have haf : (p.cs.getD c eRd.dflt).af ≤ 999000 := by
          have h9 : ¬ 999000 < (p.cs.getD (c : Int).toNat eRd.dflt).af := of_decide_eq_false h2
          rw [ec] at h9
          omega
        have hk : rdOk p.s (p.cs.getD c eRd.dflt) = true := b4 _ (mem_getD hcl)
        unfold rdOk at hk
        simp only [Bool.and_eq_true, decide_eq_true_eq] at hk
        have e3 : ((0 + 0).ble 0 && (true && (0 + p.cs.length).ble 4294967295)) = true := by simp [Nat.ble_eq]; omega
        have q2 : (decide (0 ≤ (c : Int)) && decide ((c : Int) < ((0 + p.cs.length : Nat) : Int))) = true := by simp only [Bool.and_eq_true, decide_eq_true_eq]; omega
        have q3 : decide (0 + (c : Int).toNat < 0 + p.cs.length) = true := decide_eq_true (by omega)
        obtain ⟨CS, hCS⟩ : ∃ CS, CS = (laterS p c n).cs := ⟨_, rfl⟩
        have hCl : CS.length = p.cs.length := by rw [hCS]; simp [laterS]
        (conv => arg 1; whnf); (repeat' (first | (refine brt (by assumption) ?_; (conv => arg 1; whnf)) | (refine brf (by assumption) ?_; (conv => arg 1; whnf)) | fail))
        refine joinIn (fun _ : Unit => True) (fun _ => frm 118 [(1, rrow eI pl), (4, .p 0 0), (9, i64 c), (10, i64 n), (11, .p 1 0)]) (fun _ => [.lit (snapC p), .lit [i64 p.s.fl, i64 p.s.ca, i64 p.s.st, i64 p.s.sp, i64 p.s.so, i64 p.s.op, i64 p.s.wa, i64 p.s.cl, i64 p.s.nu, i64 p.s.ag, i64 p.s.si, i64 p.s.bu, i64 p.s.pe, .s 2 2 0 CS.length, row eWn p.ws], tabl eRd CS]) ?_ (fun _ _ => ?_)
        · (conv => arg 1; whnf); (repeat' (first | (refine brt (by assumption) ?_; (conv => arg 1; whnf)) | (refine brf (by assumption) ?_; (conv => arg 1; whnf)) | fail))
          refine joinTo () [0, 1, 3] trivial (by decide) ?_ ?_ rfl
          · repeat' (first | exact True.intro | exact Fit.dead _ | exact Fit.v _ | exact .p rfl | exact .i fun _ _ => rfl | exact Fit.v' (congrArg (Value.int .i64) hn.symm) | refine And.intro ?_ ?_)
          · refine ⟨⟨_, rfl, .lit (by repeat' (first | exact True.intro | exact Fit.v _ | exact row_self eRd _ | exact row_self eWn _ | refine And.intro ?_ ?_))⟩, ⟨_, rfl, .lit ?_⟩, ⟨_, rfl, ?_⟩, trivial⟩
            · repeat' (first | exact True.intro | exact Fit.v _ | exact row_self eWn _ | exact fit_s rfl rfl (by rw [hCl, Nat.zero_add]) | refine And.intro ?_ ?_)
            · refine fit_tab (e := eRd) ⟨by rw [hCl, Nat.zero_add], fun k hk => ?_⟩
              rw [hCS, later_get hcl]
              show (if k = 0 + (c : Int).toNat then putCells (joined 0 _ (fun k => eRd.enc (p.cs.getD k eRd.dflt)) k) 1 [i64 (IntKind.i64.wrap ((p.cs.getD (0 + (c : Int).toNat - 0) eRd.dflt).af + bits .and .i64 later 255))] else joined 0 _ (fun k => eRd.enc (p.cs.getD k eRd.dflt)) k) = _
              rw [joined_zero]
              have e4 : 0 + (c : Int).toNat = c := by omega
              rw [e4, Nat.sub_zero, hn, i64w _ (by omega) (by omega)]
              by_cases hkc : k = c
              · rw [if_pos hkc, if_pos hkc, hkc]; rfl
              · rw [if_neg hkc, if_neg hkc]
        · have hrC : RowIs eRd CS.length (fun k => eRd.enc (CS.getD (0 + k) eRd.dflt)) CS := RowIs.all eRd (RowIs.row eRd CS)
          have hLf : feasB (laterS p c n) pl = true := later_feas hcl hn0 (by omega) hfea
          have w1 : waitsR p.rd (rowsRR eI pl.length fun k => [row eI (pl.getD k [])]) = (waitsL p pl, 0) := by rw [p.rd_eq, rowsRR_row]; unfold waitsR; rw [hfea]; rfl
          have w2 : waitsR ⟨⟨p.s.fl, p.s.ca, p.s.st, p.s.sp, p.s.so, p.s.op, p.s.wa, p.s.cl, p.s.nu, p.s.ag, p.s.si, p.s.bu, p.s.pe⟩, rows eRd CS.length fun k => eRd.enc (CS.getD (0 + k) eRd.dflt), rows eWn p.ws.length fun k => eWn.enc (p.ws.getD k eWn.dflt)⟩ (rowsRR eI pl.length fun k => [row eI (pl.getD k [])]) = (waitsL (laterS p c n) pl, 0) := by
            rw [RowIs.rows eRd hrC, rows_row, rowsRR_row, hCS]
            show waitsR (laterS p c n) pl = _
            unfold waitsR; rw [hLf]; rfl
          have hl1 : (waitsL p pl).length = p.ws.length := asgOf_len _ _
          have hl2 : (waitsL (laterS p c n) pl).length = p.ws.length := asgOf_len _ _
          (conv => arg 1; whnf); (repeat' (first | (refine brt (by assumption) ?_; (conv => arg 1; whnf)) | (refine brf (by assumption) ?_; (conv => arg 1; whnf)) | fail))
          (refine brt ?_ ?_; (focus (exact and2 (by show ((decide (0 + CS.length ≤ CS.length) && _) && _) = true; rw [decide_eq_true (by omega : 0 + CS.length ≤ CS.length)]; rfl) (and2 (and2 (by rw [rowsRR_row]; exact hls') (planRows hp3 hp4)) (and2 (hrC.isRow eRd (by omega)) (isRow_row eWn hp2))); done)); (conv => arg 1; whnf))
          rw [w1, w2]
          have c1 : (!(decide (((waitsL p pl).length : Int) = ((waitsL (laterS p c n) pl).length : Int)))) = false := by rw [hl1, hl2]; simp
          (conv => arg 1; whnf); (repeat' (first | (refine brt (by assumption) ?_; (conv => arg 1; whnf)) | (refine brf (by assumption) ?_; (conv => arg 1; whnf)) | fail))
          obtain ⟨A, hA⟩ : ∃ A, A = waitsL p pl := ⟨_, rfl⟩
          obtain ⟨B, hB⟩ : ∃ B, B = waitsL (laterS p c n) pl := ⟨_, rfl⟩
          rw [← hA] at hl1
          rw [← hB] at hl2
          refine loopIn (fun i : Nat => i ≤ pl.length) (fun i => frm 118 [(9, i64 c), (10, i64 n), (12, .s 0 1 0 A.length), (14, .s 1 1 0 B.length), (88, rrow eI pl), (89, i64 pl.length), (90, i64 i)]) (fun _ => [tabl eI A, tabl eI B]) (fun i => pl.length - i) 0 [3, 4] (Nat.zero_le _) (by decide) ?_ ?_ rfl fun i hi => ?_
          · repeat' (first | exact True.intro | exact Fit.dead _ | exact Fit.v _ | exact .p rfl | exact fit_s rfl rfl (by rw [hA]) | exact fit_s rfl rfl (by rw [hB]) | exact .i fun _ _ => rfl | refine And.intro ?_ ?_)
          · exact ⟨⟨_, rfl, by rw [hA]; exact .tab fun _ _ => rfl⟩, ⟨_, rfl, by rw [hB]; exact .tab fun _ _ => rfl⟩, trivial⟩
          · have hi : i ≤ pl.length := hi
            (conv => arg 1; whnf)
            refine br (fun h3 => ?_) (fun h3 => ?_)
            · have hlt : i < pl.length := by have := of_decide_eq_true h3; omega
              have e1 : (decide (0 ≤ (i : Int)) && decide ((i : Int) < (pl.length : Int))) = true := by simp only [Bool.and_eq_true, decide_eq_true_eq]; omega
              have ei : (i : Int).toNat = i := by omega
              obtain ⟨l, hl⟩ : ∃ l, l = pl.getD i [] := ⟨_, rfl⟩
              have hl' : pl.getD (i : Int).toNat [] = l := by rw [ei, hl]
              (conv => arg 1; whnf); (repeat' (first | (refine brt (by assumption) ?_; (conv => arg 1; whnf)) | (refine brf (by assumption) ?_; (conv => arg 1; whnf)) | fail))
              refine loopIn (fun j : Nat => j ≤ l.length) (fun j => frm 118 [(9, i64 c), (10, i64 n), (12, .s 0 1 0 A.length), (14, .s 1 1 0 B.length), (16, i64 i), (88, rrow eI pl), (89, i64 pl.length), (90, i64 i), (95, row eI l), (96, i64 l.length), (97, i64 j)]) (fun _ => [tabl eI A, tabl eI B]) (fun j => l.length - j) 0 [0, 1] (Nat.zero_le _) (by decide) ?_ ?_ rfl fun j hj => ?_
              · repeat' (first | exact True.intro | exact Fit.dead _ | exact Fit.v _ | exact .p rfl | exact .s rfl | exact .i fun _ _ => rfl | (rw [← hl']; first | exact Fit.v _ | exact .i fun _ _ => rfl) | refine And.intro ?_ ?_)
              · exact ⟨⟨_, rfl, .tab fun _ _ => rfl⟩, ⟨_, rfl, .tab fun _ _ => rfl⟩, trivial⟩
              · have hj : j ≤ l.length := hj
                (conv => arg 1; whnf); (repeat' (first | (refine brt (by assumption) ?_; (conv => arg 1; whnf)) | (refine brf (by assumption) ?_; (conv => arg 1; whnf)) | fail))
                refine br (fun h4 => ?_) (fun h4 => ?_)
                · have hlj : j < l.length := by have := of_decide_eq_true h4; omega
                  have e2 : (decide (0 ≤ (j : Int)) && decide ((j : Int) < (l.length : Int))) = true := by simp only [Bool.and_eq_true, decide_eq_true_eq]; omega
                  have ej : (j : Int).toNat = j := by omega
                  obtain ⟨w, hw⟩ : ∃ w, w = l.getD j 0 := ⟨_, rfl⟩
                  have hw' : l.getD (j : Int).toNat 0 = w := by rw [ej, hw]
                  obtain ⟨w0, w1', w2'⟩ := wait_at hfea hlt (j := j) (by rw [← hl]; exact hlj)
                  obtain ⟨_, _, w3⟩ := wait_at hLf hlt (j := j) (by rw [← hl]; exact hlj)
                  rw [← hl, ← hw] at w0 w1' w2' w3
                  rw [← hA] at w2'
                  rw [← hB, later_st hr hcl hn0 (by omega) (j + 1) (by omega)] at w3
                  obtain ⟨s1, s2, s3, s4, s5⟩ := stAt_bd hr (show i < p.cs.length by omega) l (j + 1) (by omega)
                  have hAB : B.getD w.toNat 0 = A.getD w.toNat 0 + (if (i : Int) = (c : Int) then n else 0) := by
                    rw [w3, w2']
                    by_cases e : i = c
                    · rw [if_pos e, if_pos (by omega)]
                      show (if (stAt p i l (j + 1)).he = -1 then -1 else (stAt p i l (j + 1)).he + n) = _
                      rw [if_neg (by omega)]
                    · rw [if_neg e, if_neg (by omega), Int.add_zero]
                  have hw2 : (l.getD (j : Int).toNat eI.dflt) = w := hw'
                  have hjk : j + 1 ≤ 1000 := by have := hls l (by rw [hl]; exact mem_getD hlt); omega
                  have q4 : (decide (0 ≤ (l.getD (j : Int).toNat eI.dflt)) && decide ((l.getD (j : Int).toNat eI.dflt) < (A.length : Int))) = true := by rw [hw2]; simp only [Bool.and_eq_true, decide_eq_true_eq]; omega
                  have q5 : (decide (0 ≤ (l.getD (j : Int).toNat eI.dflt)) && decide ((l.getD (j : Int).toNat eI.dflt) < (B.length : Int))) = true := by rw [hw2]; simp only [Bool.and_eq_true, decide_eq_true_eq]; omega
                  have q6 : decide (0 + (l.getD (j : Int).toNat eI.dflt).toNat < A.length) = true := by rw [hw2]; exact decide_eq_true (by omega)
                  have q7 : decide (0 + (l.getD (j : Int).toNat eI.dflt).toNat < B.length) = true := by rw [hw2]; exact decide_eq_true (by omega)
                  (conv => arg 1; whnf); (repeat' (first | (refine brt (by assumption) ?_; (conv => arg 1; whnf)) | (refine brf (by assumption) ?_; (conv => arg 1; whnf)) | fail))
                  refine br (fun h5 => ?_) (fun h5 => ?_)
                  · have hc5 := of_decide_eq_true h5
                    (conv => arg 1; whnf); (repeat' (first | (refine brt (by assumption) ?_; (conv => arg 1; whnf)) | (refine brf (by assumption) ?_; (conv => arg 1; whnf)) | fail))
                    refine br (fun h6 => ?_) (fun h6 => ?_)
                    · exfalso
                      have h6 : (!(decide (B.getD (0 + (l.getD (j : Int).toNat eI.dflt).toNat) 0 = IntKind.i64.wrap (A.getD (0 + (l.getD (j : Int).toNat eI.dflt).toNat) 0 + n)))) = true := h6
                      rw [hw2, Nat.zero_add, hAB, if_pos hc5, i64w _ (by omega) (by omega)] at h6
                      simp at h6
                    · (conv => arg 1; whnf); (repeat' (first | (refine brt (by assumption) ?_; (conv => arg 1; whnf)) | (refine brf (by assumption) ?_; (conv => arg 1; whnf)) | fail))
                      refine again (j + 1) [0, 1] hlj (by show l.length - (j + 1) < l.length - j; omega) (by decide) ?_ ?_ rfl
                      · repeat' (first | exact True.intro | exact Fit.dead _ | exact Fit.v _ | exact .p rfl | exact .s rfl | exact .i fun _ _ => rfl | exact Fit.v' (congrArg (Value.int .i64) (nxt j (by omega)).symm) | refine And.intro ?_ ?_)
                      · exact ⟨⟨_, rfl, .tab fun _ _ => rfl⟩, ⟨_, rfl, .tab fun _ _ => rfl⟩, trivial⟩
                  · have hc5 := of_decide_eq_false h5
                    (conv => arg 1; whnf); (repeat' (first | (refine brt (by assumption) ?_; (conv => arg 1; whnf)) | (refine brf (by assumption) ?_; (conv => arg 1; whnf)) | fail))
                    refine br (fun h6 => ?_) (fun h6 => ?_)
                    · exfalso
                      have h6 : (!(decide (B.getD (0 + (l.getD (j : Int).toNat eI.dflt).toNat) 0 = IntKind.i64.wrap (A.getD (0 + (l.getD (j : Int).toNat eI.dflt).toNat) 0 + 0)))) = true := h6
                      rw [hw2, Nat.zero_add, hAB, if_neg hc5, i64w _ (by omega) (by omega)] at h6
                      simp at h6
                    · (conv => arg 1; whnf); (repeat' (first | (refine brt (by assumption) ?_; (conv => arg 1; whnf)) | (refine brf (by assumption) ?_; (conv => arg 1; whnf)) | fail))
                      refine again (j + 1) [0, 1] hlj (by show l.length - (j + 1) < l.length - j; omega) (by decide) ?_ ?_ rfl
                      · repeat' (first | exact True.intro | exact Fit.dead _ | exact Fit.v _ | exact .p rfl | exact .s rfl | exact .i fun _ _ => rfl | exact Fit.v' (congrArg (Value.int .i64) (nxt j (by omega)).symm) | refine And.intro ?_ ?_)
                      · exact ⟨⟨_, rfl, .tab fun _ _ => rfl⟩, ⟨_, rfl, .tab fun _ _ => rfl⟩, trivial⟩
                · have hjl : j = l.length := by have := of_decide_eq_false h4; omega
                  (conv => arg 1; whnf); (repeat' (first | (refine brt (by assumption) ?_; (conv => arg 1; whnf)) | (refine brf (by assumption) ?_; (conv => arg 1; whnf)) | fail))
                  refine leave ?_
                  show tr _
                  (conv => arg 1; whnf); (repeat' (first | (refine brt (by assumption) ?_; (conv => arg 1; whnf)) | (refine brf (by assumption) ?_; (conv => arg 1; whnf)) | fail))
                  refine again (i + 1) [0, 1] hlt (by show pl.length - (i + 1) < pl.length - i; omega) (by decide) ?_ ?_ rfl
                  · repeat' (first | exact True.intro | exact Fit.dead _ | exact Fit.v _ | exact .p rfl | exact .s rfl | exact .i fun _ _ => rfl | exact Fit.v' (congrArg (Value.int .i64) (nxt i (by omega)).symm) | refine And.intro ?_ ?_)
                  · exact ⟨⟨_, rfl, .tab fun _ _ => rfl⟩, ⟨_, rfl, .tab fun _ _ => rfl⟩, trivial⟩
            · (conv => arg 1; whnf); (repeat' (first | (refine brt (by assumption) ?_; (conv => arg 1; whnf)) | (refine brf (by assumption) ?_; (conv => arg 1; whnf)) | fail))
              refine leave ?_
              show tr _
              (conv => arg 1; whnf); (repeat' (first | (refine brt (by assumption) ?_; (conv => arg 1; whnf)) | (refine brf (by assumption) ?_; (conv => arg 1; whnf)) | fail))
              exact finB rfl
end Go.Proofs.Ytglpeibbkkikgaa.E
