/- The contracts of routes: when a plan's wants are served, what it costs, by the program and by the document. -/
import Derived.Test.YtglpeibbkkikgaaPlanE
namespace Go.Proofs.Ytglpeibbkkikgaa.E
open Go NumMath
set_option linter.unusedSimpArgs false
set_option linter.unusedVariables false
set_option maxRecDepth 100000
set_option maxHeartbeats 4000000

theorem Site.travel_bd {s : Site} (h : s.right = true) (f t : Int) : 0 ≤ s.travel f t ∧ s.travel f t ≤ 65000 := by
  have hb := Site.right_bd h
  unfold Site.travel
  split
  · omega
  · rename_i hn
    split
    · have := Site.ride_bd h (f := t - f) (by omega) (by omega); omega
    · have := Site.ride_bd h (f := f - t) (by omega) (by omega); omega
theorem Site.travel_self (s : Site) (f : Int) : s.travel f f = 0 := by unfold Site.travel; rw [if_pos (.inl rfl)]
structure Stp where
  (fl he lv : Int)
def Stp.av (a : Stp) : AV := .a [i64 a.fl, i64 a.he, i64 a.lv]
def dStp : Dec Stp := ⟨fun u => match u with | .a [.v (.int .i64 a), .v (.int .i64 b), .v (.int .i64 c)] => some ⟨a, b, c⟩ | _ => none, Stp.av, fun {u a} h => (by split at h <;> first | (obtain rfl := Option.some.inj h; rfl) | cases h)⟩
def dRdy : Dec Rdy := ⟨fun u => match u with | .a [.v (.int .i64 a), .v (.int .i64 b)] => some ⟨a, b⟩ | _ => none, fun r => .a [i64 r.fl, i64 r.af], fun {u a} h => (by split at h <;> first | (obtain rfl := Option.some.inj h; rfl) | cases h)⟩
def beginS (r : Rdy) : Stp := ⟨r.fl, -1, r.af⟩
def nextS (s : Site) (a : Stp) (f : Int) : Stp := cond ((!(decide (a.he = -1))) && decide (a.fl = f)) a ⟨f, a.lv + s.travel a.fl f, a.lv + s.travel a.fl f + s.op + s.wa + s.cl + 2⟩
def beginG : List AV → Option (Bool × AV) := fn1 dRdy fun r => giv true (beginS r).av
theorem begin_ok : CtrOk Try.prog 25 (pureCtr beginG) :=
  pureCtr_ok XN0_ok Try.func25 (by decide) rfl fun args u h => by
    obtain ⟨r, rfl, h⟩ := fn1_some h
    obtain ⟨_, rfl⟩ := giv_some h
    refine ⟨rfl, rfl, ?_⟩
    clear h
    unfold runF
    (conv => arg 1; whnf)
    exact finA (by repeat' (first | exact True.intro | exact Fit.dead _ | exact Fit.v _ | exact .i fun _ _ => rfl | exact Fit.ip | exact .p rfl | exact .q rfl | exact .s rfl | exact .y rfl | refine Fit.al ?_ | refine Fit.fl ?_ ?_ | refine And.intro ?_ ?_))
def XU0 : Cx := (XT0.add 49 .pure (pureCtr travelG)).add 48 .pure (pureCtr addG)
theorem XU0_ok : CxOk Try.prog XU0 := (XT0_ok.pure travel_ok).pure add_ok
theorem sum5 {a b c d e : Int} (ha : 0 ≤ a ∧ a ≤ 100000000000) (hb : 0 ≤ b ∧ b ≤ 100000000000) (hc : 0 ≤ c ∧ c ≤ 100000000000) (hd : 0 ≤ d ∧ d ≤ 100000000000) (he : 0 ≤ e ∧ e ≤ 100000000000) : sumL [a, b, c, d, e] [a, b, c, d, e].length = a + b + c + d + e := by
  simp only [sumL, List.length_cons, List.length_nil, List.take, List.foldl]
  rw [lim_id (a := 0) (by omega) (by omega), lim_id (a := a) (by omega) (by omega), lim_id (a := b) (by omega) (by omega), lim_id (a := c) (by omega) (by omega), lim_id (a := d) (by omega) (by omega), lim_id (a := e) (by omega) (by omega), lim_id (a := 0 + a) (by omega) (by omega), lim_id (a := 0 + a) (by omega) (by omega), lim_id (a := 0 + a + b) (by omega) (by omega), lim_id (a := 0 + a + b) (by omega) (by omega), lim_id (a := 0 + a + b + c) (by omega) (by omega), lim_id (a := 0 + a + b + c) (by omega) (by omega), lim_id (a := 0 + a + b + c + d) (by omega) (by omega), lim_id (a := 0 + a + b + c + d) (by omega) (by omega), lim_id (by omega) (by omega)]
  omega
def nextG : List AV → Option (Bool × AV) := fn3 dSite dStp dI fun s a f => giv (s.right && (decide (0 ≤ a.lv) && decide (a.lv ≤ 1000000000))) (nextS s a f).av
theorem next_ok : CtrOk Try.prog 26 (pureCtr nextG) :=
  pureCtr_ok XU0_ok Try.func26 (by decide) rfl fun args u h => by
    obtain ⟨s, a, f, rfl, h⟩ := fn3_some h
    obtain ⟨hc, rfl⟩ := giv_some h
    refine ⟨rfl, rfl, ?_⟩
    clear h
    simp only [Bool.and_eq_true, decide_eq_true_eq] at hc
    obtain ⟨hr, h0, h1⟩ := hc
    have hr : s.right = true := hr
    have hb := Site.right_bd hr
    have ht := Site.travel_bd hr a.fl f
    have hl : lim (lim a.lv + lim (s.travel a.fl f)) = a.lv + s.travel a.fl f := by rw [lim_id (a := a.lv) (by omega) (by omega), lim_id (a := s.travel a.fl f) (by omega) (by omega), lim_id (by omega) (by omega)]
    unfold runF
    (conv => arg 1; whnf); (repeat' (first | (refine brt (by assumption) ?_; (conv => arg 1; whnf)) | (refine brf (by assumption) ?_; (conv => arg 1; whnf)) | fail))
    refine br (fun h2 => ?_) (fun h2 => ?_)
    · (conv => arg 1; whnf); (repeat' (first | (refine brt (by assumption) ?_; (conv => arg 1; whnf)) | (refine brf (by assumption) ?_; (conv => arg 1; whnf)) | fail))
      refine br (fun h3 => ?_) (fun h3 => ?_)
      · (conv => arg 1; whnf); (repeat' (first | (refine brt (by assumption) ?_; (conv => arg 1; whnf)) | (refine brf (by assumption) ?_; (conv => arg 1; whnf)) | fail))
        have e : nextS s a f = a := by unfold nextS; rw [h2, h3]; rfl
        rw [e]
        exact finA (by repeat' (first | exact True.intro | exact Fit.dead _ | exact Fit.v _ | exact .i fun _ _ => rfl | exact Fit.ip | exact .p rfl | exact .q rfl | exact .s rfl | exact .y rfl | refine Fit.al ?_ | refine Fit.fl ?_ ?_ | refine And.intro ?_ ?_))
      · (conv => arg 1; whnf); (repeat' (first | (refine brt (by assumption) ?_; (conv => arg 1; whnf)) | (refine brf (by assumption) ?_; (conv => arg 1; whnf)) | fail))
        have e : nextS s a f = ⟨f, a.lv + s.travel a.fl f, a.lv + s.travel a.fl f + s.op + s.wa + s.cl + 2⟩ := by unfold nextS; rw [h2, h3]; rfl
        rw [e]
        refine (finA ⟨.v _, Fit.v' (congrArg (Value.int .i64) hl.symm), Fit.v' (congrArg (Value.int .i64) ?_), trivial⟩)
        show a.lv + s.travel a.fl f + s.op + s.wa + s.cl + 2 = sumL [lim (lim a.lv + lim (s.travel a.fl f)), s.op, s.wa, s.cl, 2] [lim (lim a.lv + lim (s.travel a.fl f)), s.op, s.wa, s.cl, 2].length
        rw [hl, sum5 (by omega) (by omega) (by omega) (by omega) (by omega)]
    · (conv => arg 1; whnf); (repeat' (first | (refine brt (by assumption) ?_; (conv => arg 1; whnf)) | (refine brf (by assumption) ?_; (conv => arg 1; whnf)) | fail))
      have e : nextS s a f = ⟨f, a.lv + s.travel a.fl f, a.lv + s.travel a.fl f + s.op + s.wa + s.cl + 2⟩ := by unfold nextS; rw [h2]; rfl
      rw [e]
      refine (finA ⟨.v _, Fit.v' (congrArg (Value.int .i64) hl.symm), Fit.v' (congrArg (Value.int .i64) ?_), trivial⟩)
      show a.lv + s.travel a.fl f + s.op + s.wa + s.cl + 2 = sumL [lim (lim a.lv + lim (s.travel a.fl f)), s.op, s.wa, s.cl, 2] [lim (lim a.lv + lim (s.travel a.fl f)), s.op, s.wa, s.cl, 2].length
      rw [hl, sum5 (by omega) (by omega) (by omega) (by omega) (by omega)]

/-! ### Times -/
def flr (p : Snap) (w : Int) : Int := (p.ws.getD w.toNat eWn.dflt).fl
/-- A car behind so many stops. -/
def stAt (p : Snap) (c : Nat) (l : List Int) (j : Nat) : Stp := ((l.take j).map (flr p)).foldl (nextS p.s) (beginS (p.cs.getD c eRd.dflt))
theorem stAt_zero (p : Snap) (c : Nat) (l : List Int) : stAt p c l 0 = beginS (p.cs.getD c eRd.dflt) := by simp [stAt]
theorem stAt_succ (p : Snap) (c : Nat) {l : List Int} {j : Nat} (h : j < l.length) : stAt p c l (j + 1) = nextS p.s (stAt p c l j) (flr p (l.getD j 0)) := by
  unfold stAt
  rw [List.take_succ_eq_append_getElem h, List.map_append, List.foldl_append]
  simp [List.getD_eq_getElem?_getD, h]
theorem stAt_bd {p : Snap} (hr : p.right = true) {c : Nat} (hc : c < p.cs.length) (l : List Int) : ∀ j, j ≤ l.length → 0 ≤ (stAt p c l j).lv ∧ (stAt p c l j).lv ≤ 1000000 + 68002 * j ∧ -1 ≤ (stAt p c l j).he ∧ (stAt p c l j).he ≤ 1000000 + 68002 * j ∧ (1 ≤ j → 0 ≤ (stAt p c l j).he) := by
  obtain ⟨b1, b2, b3, b4, b5⟩ := Snap.right_bd hr
  have hb := Site.right_bd b1
  intro j
  induction j with
  | zero =>
    intro _
    have hk : rdOk p.s (p.cs.getD c eRd.dflt) = true := b4 _ (by rw [List.getD_eq_getElem?_getD, List.getElem?_eq_getElem hc]; exact List.getElem_mem _)
    unfold rdOk at hk
    simp only [Bool.and_eq_true, decide_eq_true_eq] at hk
    rw [stAt_zero]
    simp only [beginS]
    omega
  | succ j ih =>
    intro hj
    have ih := ih (by omega)
    rw [stAt_succ p c (by omega)]
    have ht := Site.travel_bd b1 (stAt p c l j).fl (flr p (l.getD j 0))
    unfold nextS
    cases hq : ((!(decide ((stAt p c l j).he = -1))) && decide ((stAt p c l j).fl = flr p (l.getD j 0))) with
    | true =>
      simp only [cond]
      simp only [Bool.and_eq_true, Bool.not_eq_true', decide_eq_false_iff_not, decide_eq_true_eq] at hq
      omega
    | false =>
      simp only [cond]
      omega
/-- When the wants of a car's list are served. -/
def tc (p : Snap) (pl : List (List Int)) (c j : Nat) : List (Int × Int) := (List.range j).map fun i => ((pl.getD c []).getD i 0, (stAt p c (pl.getD c []) (i + 1)).he)
def tpre (p : Snap) (pl : List (List Int)) (c j : Nat) : List (Int × Int) := ((List.range c).flatMap fun c' => tc p pl c' (pl.getD c' []).length) ++ tc p pl c j
theorem tpre_zero (p : Snap) (pl : List (List Int)) : tpre p pl 0 0 = [] := by simp [tpre, tc]
theorem tpre_step (p : Snap) (pl : List (List Int)) (c j : Nat) : tpre p pl c (j + 1) = tpre p pl c j ++ [((pl.getD c []).getD j 0, (stAt p c (pl.getD c []) (j + 1)).he)] := by
  simp [tpre, tc, List.range_succ]
theorem tpre_next (p : Snap) (pl : List (List Int)) (c : Nat) : tpre p pl c (pl.getD c []).length = tpre p pl (c + 1) 0 := by
  simp [tpre, tc, List.range_succ]
/-- What was written there last. -/
def asg (T : List (Int × Int)) (i : Nat) : Int := T.foldl (fun v e => if e.1 = (i : Int) then e.2 else v) 0
theorem asg_append (T : List (Int × Int)) (w t : Int) (i : Nat) : asg (T ++ [(w, t)]) i = if w = (i : Int) then t else asg T i := by simp [asg]
def asgOf (n : Nat) (T : List (Int × Int)) : List Int := (List.range n).map (asg T)
theorem asgOf_len (n : Nat) (T : List (Int × Int)) : (asgOf n T).length = n := by simp [asgOf]
theorem asgOf_get {n i : Nat} (T : List (Int × Int)) (d : Int) (h : i < n) : (asgOf n T).getD i d = asg T i := getD_range _ _ h
theorem asgOf_set (n : Nat) (T : List (Int × Int)) (w : Nat) (t : Int) : (asgOf n T).set w t = asgOf n (T ++ [((w : Int), t)]) := by
  unfold asgOf
  refine set_range _ _ n w t ?_ fun i hi => ?_
  · rw [asg_append, if_pos rfl]
  · rw [asg_append, if_neg (by omega)]
def waitsL (p : Snap) (pl : List (List Int)) : List Int := asgOf p.ws.length (tpre p pl pl.length 0)
theorem feas_ent {p : Snap} {pl : List (List Int)} (h : feasB p pl = true) : p.right = true ∧ pl.length = p.cs.length ∧ (∀ c j, c < pl.length → j < (pl.getD c []).length → good p ((pl.getD c []).getD j 0, c) = true) ∧ ∀ i, i < p.ws.length → cnt (ents 0 pl) i = 1 := by
  refine ⟨?_, ?_, fun c j hc hj => ?_, fun i hi => ?_⟩
  · cases hq : p.right with
    | true => rfl
    | false => rw [feas_no1 hq] at h; cases h
  · by_cases hq : pl.length = p.cs.length
    · exact hq
    · rw [feas_no2 hq] at h; cases h
  · cases hq : good p ((pl.getD c []).getD j 0, c) with
    | true => rfl
    | false => rw [feas_bad hc hj hq] at h; cases h
  · unfold feasB at h
    simp only [Bool.and_eq_true] at h
    exact of_decide_eq_true (List.all_eq_true.1 h.2.2.2 i (List.mem_range.2 hi))
theorem good_bd {p : Snap} {w : Int} {c : Nat} (h : good p (w, c) = true) : 0 ≤ w ∧ w < (p.ws.length : Int) := by
  unfold good at h
  simp only [Bool.and_eq_true, decide_eq_true_eq] at h
  exact h.1

/-! ### Waits -/
noncomputable def XU1 : Cx := (XN0.add 25 .pure (pureCtr beginG)).add 26 .pure (pureCtr nextG)
theorem XU1_ok : CxOk Try.prog XU1 := (XN0_ok.pure begin_ok).pure next_ok
noncomputable def XU2 : Cx := ((XN0.add 16 (.foot reads2) (freshCtr feasG)).addRun 45 (runFn XN0 Try.f45 (bodyOf Try.f45))).addRun 58 (runFn XU1 Try.f58 (bodyOf Try.f58))
theorem XU2_ok : CxOk Try.prog XU2 := ((XN0_ok.fresh feas_ok).addRun (runFn_ok XN0_ok Try.func45 (by decide) rfl)).addRun (runFn_ok XU1_ok Try.func58 (by decide) rfl)
def waitsR (p : Snap) (pl : List (List Int)) : List Int × Int := cond (feasB p pl) (waitsL p pl, 0) ([], 9)
def waitsG : List AV → Option (Bool × AV × St) := ad2 adSnap (adRR eI) fun p pl => some (pl.all fun l => decide (l.length ≤ 1000), .t [.s 0 1 0 (waitsR p pl).1.length, i64 (waitsR p pl).2], [tabl eI (waitsR p pl).1])
theorem plainTab {l : List Int} : PlainS [tabl eI l] := fun B h => by
  obtain rfl := List.mem_singleton.1 h
  exact .inl ⟨_, _, _, rfl, fun k _ u hu => ⟨_, List.mem_singleton.1 hu⟩⟩
theorem planRows {pl : List (List Int)} (h : pl.length < 281474976710656) (h2 : ∀ l ∈ pl, l.length < 281474976710656) : (Nat.beq 1 1 && (okRR eI pl.length (fun k => [row eI (pl.getD k [])]) && Nat.blt pl.length 281474976710656)) = true := by
  refine and2 rfl (and2 (List.all_eq_true.2 fun k hk => ?_) (by simpa [Nat.blt_eq] using h))
  have hk := List.mem_range.1 hk
  exact isRow_row eI (h2 _ (by rw [List.getD_eq_getElem?_getD, List.getElem?_eq_getElem hk]; exact List.getElem_mem _))
theorem rowsRR_row {pl : List (List Int)} : rowsRR eI pl.length (fun k => [row eI (pl.getD k [])]) = pl := by
  apply List.ext_getElem?
  intro k
  rcases Nat.lt_or_ge k pl.length with h | h
  · simp only [rowsRR, List.getElem?_map]
    rw [List.getElem?_range h, List.getElem?_eq_getElem h]
    simp only [Option.map_some, rowR1, rows_row]
    rw [List.getD_eq_getElem?_getD, List.getElem?_eq_getElem h, Option.getD_some]
  · rw [List.getElem?_eq_none h, List.getElem?_eq_none (by simpa [rowsRR] using h)]
theorem waits_ok : CtrOk Try.prog 19 (freshCtr waitsG) :=
  freshCtr_ok XU2_ok Try.func19 (by decide) rfl fun args u σn h => by
    obtain ⟨p, pl, hf, ⟨hp1, hp2⟩, ⟨hp3, hp4⟩, hv⟩ := ad2_some h
    simp only [Option.some.injEq, Prod.mk.injEq] at hv
    obtain ⟨hls', rfl, rfl⟩ := hv
    refine ⟨plainTab, _, hf, ?_⟩
    clear h hf
    have hls : ∀ l ∈ pl, l.length ≤ 1000 := fun l hl => of_decide_eq_true (List.all_eq_true.1 hls' l hl)
    have hfe : feasB p.rd (rowsRR eI pl.length fun k => [row eI (pl.getD k [])]) = feasB p pl := by rw [p.rd_eq, rowsRR_row]
    unfold runF
    (conv => arg 1; whnf)
    (refine brt ?_ ?_; (focus (exact and2 rfl (and2 (and2 (by rw [rowsRR_row]; exact hls') (planRows hp3 hp4)) (snapRows hp1 hp2)); done)); (conv => arg 1; whnf))
    refine br (fun h1 => ?_) (fun h1 => ?_)
    · have h1' : (!(feasB p.rd (rowsRR eI pl.length fun k => [row eI (pl.getD k [])]))) = true := h1
      rw [hfe] at h1'
      have e : waitsR p pl = ([], 9) := by unfold waitsR; rw [show feasB p pl = false by simpa using h1']; rfl
      rw [e]
      (conv => arg 1; whnf); (repeat' (first | (refine brt (by assumption) ?_; (conv => arg 1; whnf)) | (refine brf (by assumption) ?_; (conv => arg 1; whnf)) | fail))
      exact Cov.slot 0 1 (.t [.v (.slice none 0 0), i64 9]) (.t [.s 1 1 0 0, i64 9]) rfl (by decide) (.t (k := 0) rfl .nil) (.mk [1] (by decide) ⟨Fit.tl ⟨.s rfl, .v _, trivial⟩, trivial⟩ ⟨⟨_, rfl, .tab fun k hk => absurd hk (Nat.not_lt_zero k)⟩, trivial⟩ rfl)
    · have h1' : (!(feasB p.rd (rowsRR eI pl.length fun k => [row eI (pl.getD k [])]))) = false := h1
      rw [hfe] at h1'
      have hfea : feasB p pl = true := by simpa using h1'
      obtain ⟨hr, hpl, hent, hone⟩ := feas_ent hfea
      obtain ⟨b1, b2, b3, b4, b5⟩ := Snap.right_bd hr
      have hb := Site.right_bd b1
      have e : waitsR p pl = (waitsL p pl, 0) := by unfold waitsR; rw [hfea]; rfl
      have hwl : (waitsL p pl).length = p.ws.length := asgOf_len _ _
      rw [e]
      have hmk : (decide ((0 : Int) ≤ (p.ws.length : Int)) && Nat.ble (p.ws.length : Int).toNat 1073741823) = true := and2 (decide_eq_true (by omega)) (Nat.ble_eq_true_of_le (by omega))
      (conv => arg 1; whnf); (repeat' (first | (refine brt (by assumption) ?_; (conv => arg 1; whnf)) | (refine brf (by assumption) ?_; (conv => arg 1; whnf)) | fail))
      refine loopIn (fun c : Nat => c ≤ pl.length) (fun c => frm 46 [(0, .y 5), (2, .p 3 0), (9, rrow eI pl), (10, i64 pl.length), (11, i64 c)]) (fun c => [.lit (snapC p), .tab 1 p.ws.length fun k => eI.enc ((asgOf p.ws.length (tpre p pl c 0)).getD k eI.dflt), .lit [.s 1 1 0 p.ws.length], .lit (snapC p), .lit [rrow eI pl], .lrec .normal]) (fun c => pl.length - c) 0 [0, 1, 2, 3, 4, 5] (Nat.zero_le _) (by decide) ?_ ?_ rfl fun c hc => ?_
      · repeat' (first | exact True.intro | exact Fit.dead _ | exact Fit.v _ | exact .p rfl | exact .s rfl | exact .y rfl | exact row_self eI _ | exact .i fun _ _ => rfl | exact Fit.v' (congrArg (Value.int .i64) (nxt c (by omega)).symm) | refine And.intro ?_ ?_)
      · refine ⟨⟨_, rfl, .lit (by repeat' (first | exact True.intro | exact Fit.v _ | exact row_self eRd _ | exact row_self eWn _ | refine And.intro ?_ ?_))⟩, ⟨_, rfl, ?_⟩, ⟨_, rfl, .lit ⟨.s rfl, trivial⟩⟩, ⟨_, rfl, .lit (by repeat' (first | exact True.intro | exact Fit.v _ | exact row_self eRd _ | exact row_self eWn _ | refine And.intro ?_ ?_))⟩, ⟨_, rfl, .lit ⟨.i fun _ _ => rfl, trivial⟩⟩, ⟨_, rfl, .lrec _⟩, trivial⟩
        show FitB _ _ (.tab 1 p.ws.length fun k => eI.enc ((asgOf p.ws.length (tpre p pl 0 0)).getD k eI.dflt)) (.tab 1 p.ws.length fun _ => [i64 0])
        exact .tab fun k hk => by rw [tpre_zero, asgOf_get _ _ hk]; rfl
      · have hc : c ≤ pl.length := hc
        (conv => arg 1; whnf)
        refine br (fun h2 => ?_) (fun h2 => ?_)
        · have hlt : c < pl.length := by have := of_decide_eq_true h2; omega
          have e1 : (decide (0 ≤ (c : Int)) && decide ((c : Int) < (pl.length : Int))) = true := by simp only [Bool.and_eq_true, decide_eq_true_eq]; omega
          have e1' : (decide (0 ≤ (c : Int)) && decide ((c : Int) < (p.cs.length : Int))) = true := by simp only [Bool.and_eq_true, decide_eq_true_eq]; omega
          have ec : (c : Int).toNat = c := by omega
          obtain ⟨l, hl⟩ : ∃ l, l = pl.getD c [] := ⟨_, rfl⟩
          have hl' : pl.getD (c : Int).toNat [] = l := by rw [ec, hl]
          have hl1 : l.length ≤ 1000 := by
            rw [hl, List.getD_eq_getElem?_getD, List.getElem?_eq_getElem hlt]
            exact hls _ (List.getElem_mem hlt)
          (conv => arg 1; whnf); (repeat' (first | (refine brt (by assumption) ?_; (conv => arg 1; whnf)) | (refine brf (by assumption) ?_; (conv => arg 1; whnf)) | fail))
          refine loopIn (fun j : Nat => j ≤ l.length) (fun j => frm 46 [(0, .y 5), (2, .p 3 0), (6, .p 6 0), (9, rrow eI pl), (10, i64 pl.length), (11, i64 c), (22, row eI l), (23, i64 l.length), (24, i64 j)]) (fun j => [.lit (snapC p), .tab 1 p.ws.length fun k => eI.enc ((asgOf p.ws.length (tpre p pl c j)).getD k eI.dflt), .lit [.s 1 1 0 p.ws.length], .lit (snapC p), .lit [rrow eI pl], .lrec .normal, .lit [i64 (stAt p c l j).fl, i64 (stAt p c l j).he, i64 (stAt p c l j).lv]]) (fun j => l.length - j) 0 [0, 1, 2, 3, 4, 5, 6] (Nat.zero_le _) (by decide) ?_ ?_ rfl fun j hj => ?_
          · repeat' (first | exact True.intro | exact Fit.dead _ | exact Fit.v _ | exact .p rfl | exact .s rfl | exact .y rfl | exact (show Fit _ _ (row eI l) (row eI (pl.getD (c : Int).toNat [])) by rw [hl']; exact row_self eI l) | exact Fit.v' (congrArg (Value.int .i64) (show (l.length : Int) = ((pl.getD (c : Int).toNat []).length : Int) by rw [hl'])) | exact .i fun _ _ => rfl | refine And.intro ?_ ?_)
          · refine ⟨⟨_, rfl, .lit (by repeat' (first | exact True.intro | exact Fit.v _ | exact row_self eRd _ | exact row_self eWn _ | refine And.intro ?_ ?_))⟩, ⟨_, rfl, .tab fun _ _ => rfl⟩, ⟨_, rfl, .lit ⟨.s rfl, trivial⟩⟩, ⟨_, rfl, .lit (by repeat' (first | exact True.intro | exact Fit.v _ | exact row_self eRd _ | exact row_self eWn _ | refine And.intro ?_ ?_))⟩, ⟨_, rfl, .lit ⟨.i fun _ _ => rfl, trivial⟩⟩, ⟨_, rfl, .lrec _⟩, ⟨_, rfl, .lit ?_⟩, trivial⟩
            rw [stAt_zero, show p.cs.getD c eRd.dflt = p.cs.getD (c : Int).toNat eRd.dflt by rw [ec]]
            repeat' (first | exact True.intro | exact Fit.dead _ | exact Fit.v _ | exact .i fun _ _ => rfl | exact Fit.ip | exact .p rfl | exact .q rfl | exact .s rfl | exact .y rfl | refine Fit.al ?_ | refine Fit.fl ?_ ?_ | refine And.intro ?_ ?_)
          · have hj : j ≤ l.length := hj
            obtain ⟨s1, s2, s3, s4, s5⟩ := stAt_bd hr (c := c) (by omega) l j hj
            (conv => arg 1; whnf)
            refine br (fun h3 => ?_) (fun h3 => ?_)
            · have hlj : j < l.length := by have := of_decide_eq_true h3; omega
              have e2 : (decide (0 ≤ (j : Int)) && decide ((j : Int) < (l.length : Int))) = true := by simp only [Bool.and_eq_true, decide_eq_true_eq]; omega
              have ej : (j : Int).toNat = j := by omega
              obtain ⟨w, hw⟩ : ∃ w, w = l.getD j 0 := ⟨_, rfl⟩
              have hw' : (l.getD (j : Int).toNat eI.dflt) = w := by rw [ej, hw]; rfl
              have hgd := good_bd (hent c j hlt (by rw [← hl]; exact hlj))
              rw [← hl, ← hw] at hgd
              have q1 : (decide (0 ≤ (l.getD (j : Int).toNat eI.dflt)) && decide ((l.getD (j : Int).toNat eI.dflt) < (p.ws.length : Int))) = true := by rw [hw']; simp only [Bool.and_eq_true, decide_eq_true_eq]; omega
              have q2 : decide (0 + (l.getD (j : Int).toNat eI.dflt).toNat < p.ws.length) = true := by rw [hw']; exact decide_eq_true (by omega)
              have q3 : (p.s.right && (decide (0 ≤ (stAt p c l j).lv) && decide ((stAt p c l j).lv ≤ 1000000000))) = true := by
                rw [b1]; simp only [Bool.true_and, Bool.and_eq_true, decide_eq_true_eq]; omega
              have en : nextS p.s (stAt p c l j) (p.ws.getD (l.getD (j : Int).toNat eI.dflt).toNat eWn.dflt).fl = stAt p c l (j + 1) := by rw [stAt_succ p c hlj, hw', hw]; rfl
              (conv => arg 1; whnf); (repeat' (first | (refine brt (by assumption) ?_; (conv => arg 1; whnf)) | (refine brf (by assumption) ?_; (conv => arg 1; whnf)) | fail))
              refine again (j + 1) [0, 1, 2, 3, 4, 5, 6] hlj (by show l.length - (j + 1) < l.length - j; omega) (by decide) ?_ ?_ rfl
              · repeat' (first | exact True.intro | exact Fit.dead _ | exact Fit.v _ | exact .p rfl | exact .s rfl | exact .y rfl | exact row_self eI _ | exact .i fun _ _ => rfl | exact Fit.v' (congrArg (Value.int .i64) (nxt j (by omega)).symm) | refine And.intro ?_ ?_)
              · refine ⟨⟨_, rfl, .lit (by repeat' (first | exact True.intro | exact Fit.v _ | exact row_self eRd _ | exact row_self eWn _ | refine And.intro ?_ ?_))⟩, ⟨_, rfl, .tab fun k hk => ?_⟩, ⟨_, rfl, .lit ⟨.s rfl, trivial⟩⟩, ⟨_, rfl, .lit (by repeat' (first | exact True.intro | exact Fit.v _ | exact row_self eRd _ | exact row_self eWn _ | refine And.intro ?_ ?_))⟩, ⟨_, rfl, .lit ⟨.i fun _ _ => rfl, trivial⟩⟩, ⟨_, rfl, .lrec _⟩, ⟨_, rfl, .lit ?_⟩, trivial⟩
                · have hrow := RowIs.put eI (n := p.ws.length) (i := w.toNat) (i' := 0 + (l.getD (j : Int).toNat eI.dflt).toNat) (j := 0) (g := fun k => eI.enc ((asgOf p.ws.length (tpre p pl c j)).getD k eI.dflt)) (l := asgOf p.ws.length (tpre p pl c j)) (cs := [i64 (nextS p.s (stAt p c l j) (p.ws.getD (l.getD (j : Int).toNat eI.dflt).toNat eWn.dflt).fl).he]) (a := (stAt p c l (j + 1)).he) ⟨(asgOf_len _ _).symm, fun _ _ => rfl⟩ (by rw [hw', Nat.zero_add]) (by omega) (by rw [en]; rfl)
                  have hst := tpre_step p pl c j
                  rw [← hl, ← hw] at hst
                  rw [asgOf_set, show ((w.toNat : Nat) : Int) = w by omega, ← hst] at hrow
                  exact (hrow.get k hk).symm
                · rw [← en]
                  repeat' (first | exact True.intro | exact Fit.dead _ | exact Fit.v _ | exact .i fun _ _ => rfl | exact Fit.ip | exact .p rfl | exact .q rfl | exact .s rfl | exact .y rfl | refine Fit.al ?_ | refine Fit.fl ?_ ?_ | refine And.intro ?_ ?_)
            · have hjl : j = l.length := by have := of_decide_eq_false h3; omega
              (conv => arg 1; whnf); (repeat' (first | (refine brt (by assumption) ?_; (conv => arg 1; whnf)) | (refine brf (by assumption) ?_; (conv => arg 1; whnf)) | fail))
              refine leave ?_
              show tr _
              (conv => arg 1; whnf); (repeat' (first | (refine brt (by assumption) ?_; (conv => arg 1; whnf)) | (refine brf (by assumption) ?_; (conv => arg 1; whnf)) | fail))
              refine again (c + 1) [0, 1, 2, 3, 4, 5] hlt (by show pl.length - (c + 1) < pl.length - c; omega) (by decide) ?_ ?_ rfl
              · repeat' (first | exact True.intro | exact Fit.dead _ | exact Fit.v _ | exact .p rfl | exact .s rfl | exact .y rfl | exact .i fun _ _ => rfl | exact Fit.v' (congrArg (Value.int .i64) (nxt c (by omega)).symm) | refine And.intro ?_ ?_)
              · exact ⟨⟨_, rfl, .lit (by repeat' (first | exact True.intro | exact Fit.v _ | exact row_self eRd _ | exact row_self eWn _ | refine And.intro ?_ ?_))⟩, ⟨_, rfl, .tab fun k hk => by rw [← tpre_next, ← hl, ← hjl]⟩, ⟨_, rfl, .lit ⟨.s rfl, trivial⟩⟩, ⟨_, rfl, .lit (by repeat' (first | exact True.intro | exact Fit.v _ | exact row_self eRd _ | exact row_self eWn _ | refine And.intro ?_ ?_))⟩, ⟨_, rfl, .lit ⟨.i fun _ _ => rfl, trivial⟩⟩, ⟨_, rfl, .lrec _⟩, trivial⟩
        · have hcl : c = pl.length := by have := of_decide_eq_false h2; omega
          (conv => arg 1; whnf); (repeat' (first | (refine brt (by assumption) ?_; (conv => arg 1; whnf)) | (refine brf (by assumption) ?_; (conv => arg 1; whnf)) | fail))
          refine leave ?_
          show tr _
          (conv => arg 1; whnf); (repeat' (first | (refine brt (by assumption) ?_; (conv => arg 1; whnf)) | (refine brf (by assumption) ?_; (conv => arg 1; whnf)) | fail))
          refine finS [1] (by decide) (.tl ⟨fit_s rfl rfl hwl, .v _, trivial⟩) ⟨⟨_, rfl, ?_⟩, trivial⟩ rfl
          exact fit_tab (e := eI) ⟨(asgOf_len _ _).symm, fun k hk => by rw [hcl]; rfl⟩
end Go.Proofs.Ytglpeibbkkikgaa.E
