/- The contracts of routes, on: what a plan costs; the document's way. -/
import Derived.Test.YtglpeibbkkikgaaRouteE
namespace Go.Proofs.Ytglpeibbkkikgaa.E
open Go NumMath
set_option linter.unusedSimpArgs false
set_option linter.unusedVariables false
set_option maxRecDepth 100000
set_option maxHeartbeats 4000000

/-! ### What a plan costs -/
theorem tc_bd {p : Snap} {pl : List (List Int)} (hf : feasB p pl = true) (hls : ∀ l ∈ pl, l.length ≤ 1000) {c j : Nat} (hc : c < pl.length) (hj : j ≤ (pl.getD c []).length) : ∀ e ∈ tc p pl c j, 0 ≤ e.2 ∧ e.2 ≤ 69002000 := fun e he => by
  obtain ⟨hr, hpl, hent, hone⟩ := feas_ent hf
  unfold tc at he
  obtain ⟨i, hi, rfl⟩ := List.mem_map.1 he
  have hi := List.mem_range.1 hi
  obtain ⟨s1, s2, s3, s4, s5⟩ := stAt_bd hr (c := c) (by omega) (pl.getD c []) (i + 1) (by omega)
  have hl1 : (pl.getD c []).length ≤ 1000 := by
    rw [List.getD_eq_getElem?_getD, List.getElem?_eq_getElem hc]
    exact hls _ (List.getElem_mem hc)
  have := s5 (by omega)
  simp only
  omega
theorem tpre_bd {p : Snap} {pl : List (List Int)} (hf : feasB p pl = true) (hls : ∀ l ∈ pl, l.length ≤ 1000) : ∀ e ∈ tpre p pl pl.length 0, 0 ≤ e.2 ∧ e.2 ≤ 69002000 := fun e he => by
  unfold tpre at he
  rcases List.mem_append.1 he with he | he
  · obtain ⟨c, hc, he⟩ := List.mem_flatMap.1 he
    exact tc_bd hf hls (List.mem_range.1 hc) (Nat.le_refl _) e he
  · simp [tc] at he
theorem asg_bd {T : List (Int × Int)} {m : Int} (hm : 0 ≤ m) (h : ∀ e ∈ T, 0 ≤ e.2 ∧ e.2 ≤ m) (i : Nat) : 0 ≤ asg T i ∧ asg T i ≤ m := by
  have key : ∀ (T : List (Int × Int)) (v : Int), 0 ≤ v ∧ v ≤ m → (∀ e ∈ T, 0 ≤ e.2 ∧ e.2 ≤ m) → 0 ≤ T.foldl (fun v e => if e.1 = (i : Int) then e.2 else v) v ∧ T.foldl (fun v e => if e.1 = (i : Int) then e.2 else v) v ≤ m := by
    intro T
    induction T with
    | nil => intro v hv _; exact hv
    | cons e T ih =>
      intro v hv h
      simp only [List.foldl_cons]
      refine ih _ ?_ fun e he => h e (List.mem_cons_of_mem _ he)
      split
      · exact h e List.mem_cons_self
      · exact hv
  exact key T 0 ⟨Int.le_refl 0, hm⟩ h
theorem waits_bd {p : Snap} {pl : List (List Int)} (hf : feasB p pl = true) (hls : ∀ l ∈ pl, l.length ≤ 1000) : ∀ x ∈ waitsL p pl, 0 ≤ x ∧ x ≤ 69002000 := fun x hx => by
  unfold waitsL asgOf at hx
  obtain ⟨i, _, rfl⟩ := List.mem_map.1 hx
  exact asg_bd (by decide) (tpre_bd hf hls) i
theorem sum_bd {l : List Int} {m : Int} (hm : 0 ≤ m) (h : ∀ x ∈ l, 0 ≤ x ∧ x ≤ m) : ∀ k, 0 ≤ (l.take k).sum ∧ (l.take k).sum ≤ m * (l.take k).length := by
  intro k
  have key : ∀ (l : List Int), (∀ x ∈ l, 0 ≤ x ∧ x ≤ m) → 0 ≤ l.sum ∧ l.sum ≤ m * l.length := by
    intro l
    induction l with
    | nil => intro _; simp
    | cons x l ih =>
      intro h
      have h1 := h x List.mem_cons_self
      have h2 := ih fun x hx => h x (List.mem_cons_of_mem _ hx)
      simp only [List.sum_cons, List.length_cons]
      have : m * ((l.length + 1 : Nat) : Int) = m * l.length + m := by rw [Int.natCast_add, Int.mul_add]; simp
      omega
  exact key _ fun x hx => h x (List.mem_of_mem_take hx)
theorem take_sum {l : List Int} {k : Nat} (h : k < l.length) : (l.take (k + 1)).sum = (l.take k).sum + l.getD k 0 := by
  rw [List.take_succ_eq_append_getElem h, List.sum_append, List.getD_eq_getElem?_getD, List.getElem?_eq_getElem h]
  simp
theorem sumL_eq {l : List Int} (h : ∀ x ∈ l, 0 ≤ x ∧ x ≤ 69002000) (hl : l.length ≤ 1000) : ∀ k, k ≤ l.length → sumL l k = (l.take k).sum := by
  intro k
  induction k with
  | zero => intro _; simp [sumL]
  | succ k ih =>
    intro hk
    have h1 := sum_bd (m := 69002000) (by decide) h k
    have h2 := h (l.getD k 0) (by rw [List.getD_eq_getElem?_getD, List.getElem?_eq_getElem (by omega)]; exact List.getElem_mem _)
    have h3 : (l.take k).length ≤ 1000 := by simp; omega
    rw [sumL_succ l k (by omega), take_sum (by omega), ih (by omega), lim_id (a := (l.take k).sum) (by omega) (by omega), lim_id (a := l.getD k 0) (by omega) (by omega), lim_id (by omega) (by omega)]
def costR (p : Snap) (pl : List (List Int)) : Int × Int := (sumL (waitsR p pl).1 (waitsR p pl).1.length, (waitsR p pl).2)
theorem planCond {pl : List (List Int)} (h : pl.length < 281474976710656) (h2 : ∀ l ∈ pl, l.length < 281474976710656) (hls : (pl.all fun l => decide (l.length ≤ 1000)) = true) :
    (((rowsRR eI pl.length fun k => [row eI (pl.getD k [])]).all fun l => decide (l.length ≤ 1000)) && (Nat.beq 1 1 && ((okRR eI pl.length fun k => [row eI (pl.getD k [])]) && Nat.blt pl.length 281474976710656))) = true :=
  and2 (by rw [rowsRR_row]; exact hls) (planRows h h2)
noncomputable def XU3 : Cx := (XN0.add 19 (.foot reads2) (freshCtr waitsG)).add 46 (.reads readsL) (borCtr sumG)
theorem XU3_ok : CxOk Try.prog XU3 := (XN0_ok.fresh waits_ok).bor sumB_ok
def costG : List AV → Option (Bool × AV × St) := ad2 adSnap (adRR eI) fun p pl => some ((pl.all fun l => decide (l.length ≤ 1000)) && decide (p.ws.length ≤ 100000000), .t [i64 (costR p pl).1, i64 (costR p pl).2], [])
theorem waitsR_len (p : Snap) (pl : List (List Int)) : (waitsR p pl).1.length ≤ p.ws.length := by
  unfold waitsR
  cases feasB p pl
  · exact Nat.zero_le _
  · exact Nat.le_of_eq (asgOf_len _ _)
theorem cost_ok : CtrOk Try.prog 20 (freshCtr costG) :=
  freshCtr_ok XU3_ok Try.func20 (by decide) rfl fun args u σn h => by
    obtain ⟨p, pl, hf, ⟨hp1, hp2⟩, ⟨hp3, hp4⟩, hv⟩ := ad2_some h
    simp only [Option.some.injEq, Prod.mk.injEq, Bool.and_eq_true] at hv
    obtain ⟨⟨hls', hw⟩, rfl, rfl⟩ := hv
    refine ⟨plainNil, _, hf, ?_⟩
    clear h hf
    have hw := of_decide_eq_true hw
    have hfe : waitsR p.rd (rowsRR eI pl.length fun k => [row eI (pl.getD k [])]) = waitsR p pl := by rw [p.rd_eq, rowsRR_row]
    have hlen := waitsR_len p pl
    unfold runF
    (conv => arg 1; whnf)
    (refine brt ?_ ?_; (focus (exact and2 rfl (and2 (and2 (by rw [rowsRR_row]; exact hls') (planRows hp3 hp4)) (snapRows hp1 hp2)); done)); (conv => arg 1; whnf))
    rw [hfe]
    have hrow : RowIs eI (waitsR p pl).1.length (fun k => eI.enc ((waitsR p pl).1.getD (0 + k) eI.dflt)) (waitsR p pl).1 := RowIs.all eI (RowIs.row eI _)
    (conv => arg 1; whnf)
    (refine brt ?_ ?_; (focus (exact and2 (bor1 rfl (Nat.le_of_eq (Nat.zero_add _))) (and2 rfl (hrow.isRow eI (by omega))); done)); (conv => arg 1; whnf))
    refine finT ⟨Fit.v' (congrArg (Value.int .i64) ?_), .v _, trivial⟩
    show (costR p pl).1 = sumL (rows eI (waitsR p pl).1.length fun k => eI.enc ((waitsR p pl).1.getD (0 + k) eI.dflt)) (rows eI (waitsR p pl).1.length fun k => eI.enc ((waitsR p pl).1.getD (0 + k) eI.dflt)).length
    rw [RowIs.rows eI hrow]
    rfl

/-! ### The document's way -/
theorem stAt_lv {p : Snap} {c : Nat} {l : List Int} : ∀ j, j ≤ l.length → (stAt p c l j).he ≠ -1 → (stAt p c l j).lv = (stAt p c l j).he + p.s.op + p.s.wa + p.s.cl + 2 := by
  intro j
  induction j with
  | zero => intro _ h; rw [stAt_zero] at h; exact absurd rfl h
  | succ j ih =>
    intro hj
    rw [stAt_succ p c (by omega)]
    unfold nextS
    cases hq : ((!(decide ((stAt p c l j).he = -1))) && decide ((stAt p c l j).fl = flr p (l.getD j 0))) with
    | true => exact ih (by omega)
    | false => intro _; rfl
def XV0 : Cx := XN0.add 27 .pure (pureCtr travelG)
theorem XV0_ok : CxOk Try.prog XV0 := XN0_ok.pure rtravel_ok
def inW (p : Snap) (w : Int) : Bool := decide (0 ≤ w) && decide (w < (p.ws.length : Int))
def timeG : List AV → Option (Bool × AV × St) := ad4 adSnap adI (adR eI) adI fun p c l a => some ((p.right && (decide (0 ≤ c) && decide (c < (p.cs.length : Int)))) && ((decide (0 ≤ a) && decide (a < (l.length : Int))) && (l.all (inW p) && decide (l.length ≤ 1000))), i64 (stAt p c.toNat l (a.toNat + 1)).he, [])
theorem rtime_ok : CtrOk Try.prog 47 (freshCtr timeG) :=
  freshCtr_ok XV0_ok Try.func47 (by decide) rfl fun args u σn h => by
    obtain ⟨p, c, l, a, hf, ⟨hp1, hp2⟩, _, hl, _, hv⟩ := ad4_some h
    simp only [Option.some.injEq, Prod.mk.injEq] at hv
    obtain ⟨hc, rfl, rfl⟩ := hv
    refine ⟨plainNil, _, hf, ?_⟩
    clear h hf
    simp only [Bool.and_eq_true, decide_eq_true_eq] at hc
    obtain ⟨⟨hr, hc0, hc1⟩, ⟨ha0, ha1⟩, hin, hl1⟩ := hc
    have hin : ∀ j, j < l.length → 0 ≤ l.getD j 0 ∧ l.getD j 0 < (p.ws.length : Int) := fun j hj => by
      have := List.all_eq_true.1 hin (l.getD j 0) (by rw [List.getD_eq_getElem?_getD, List.getElem?_eq_getElem hj]; exact List.getElem_mem hj)
      unfold inW at this
      simpa using this
    obtain ⟨b1, b2, b3, b4, b5⟩ := Snap.right_bd hr
    have hb := Site.right_bd b1
    have e1 : (decide (0 ≤ c) && decide (c < (p.cs.length : Int))) = true := by simp only [Bool.and_eq_true, decide_eq_true_eq]; omega
    unfold runF
    (conv => arg 1; whnf); (repeat' (first | (refine brt (by assumption) ?_; (conv => arg 1; whnf)) | (refine brf (by assumption) ?_; (conv => arg 1; whnf)) | fail))
    refine loopIn (fun x : Nat × Int => x.1 ≤ a.toNat + 1 ∧ ((stAt p c.toNat l x.1).he = -1 → x.2 = (stAt p c.toNat l x.1).lv)) (fun x => frm 72 [(2, row eI l), (3, i64 a), (4, .p 0 0), (9, i64 x.2), (10, i64 (stAt p c.toNat l x.1).fl), (11, i64 (stAt p c.toNat l x.1).he), (12, i64 x.1)]) (fun _ => [.lit (snapC p)]) (fun x => a.toNat + 1 - x.1) (0, (p.cs.getD c.toNat eRd.dflt).af) [0] ⟨Nat.zero_le _, fun _ => by rw [stAt_zero]; rfl⟩ (by decide) ?_ ?_ rfl fun x hi => ?_
    · rw [stAt_zero]
      repeat' (first | exact True.intro | exact Fit.dead _ | exact Fit.v _ | exact .p rfl | exact row_self eI _ | refine And.intro ?_ ?_)
    · exact ⟨⟨_, rfl, .lit (by repeat' (first | exact True.intro | exact Fit.v _ | exact row_self eRd _ | exact row_self eWn _ | refine And.intro ?_ ?_))⟩, trivial⟩
    · obtain ⟨i, t⟩ := x
      obtain ⟨hi, ht⟩ := hi
      simp only at hi ht
      (conv => arg 1; whnf)
      refine br (fun h1 => ?_) (fun h1 => ?_)
      · have hle : (i : Int) ≤ a := of_decide_eq_true h1
        have hil : i < l.length := by omega
        obtain ⟨s1, s2, s3, s4, s5⟩ := stAt_bd hr (c := c.toNat) (by omega) l i (by omega)
        have hlv := stAt_lv (p := p) (c := c.toNat) (l := l) i (by omega)
        have hin1 := hin i hil
        have ei : (i : Int).toNat = i := by omega
        obtain ⟨w, hw⟩ : ∃ w, w = l.getD i 0 := ⟨_, rfl⟩
        have hw' : (l.getD (i : Int).toNat eI.dflt) = w := by rw [ei, hw]; rfl
        rw [← hw] at hin1
        have q0 : (decide (0 ≤ (i : Int)) && decide ((i : Int) < (l.length : Int))) = true := by simp only [Bool.and_eq_true, decide_eq_true_eq]; omega
        have q1 : (decide (0 ≤ (l.getD (i : Int).toNat eI.dflt)) && decide ((l.getD (i : Int).toNat eI.dflt) < (p.ws.length : Int))) = true := by rw [hw']; simp only [Bool.and_eq_true, decide_eq_true_eq]; omega
        have ef : (p.ws.getD (l.getD (i : Int).toNat eI.dflt).toNat eWn.dflt).fl = flr p w := by rw [hw']; rfl
        have en := stAt_succ p c.toNat hil
        rw [← hw] at en
        have htr := Site.travel_bd b1 (stAt p c.toNat l i).fl (flr p w)
        (conv => arg 1; whnf); (repeat' (first | (refine brt (by assumption) ?_; (conv => arg 1; whnf)) | (refine brf (by assumption) ?_; (conv => arg 1; whnf)) | fail))
        refine br (fun h2 => ?_) (fun h2 => ?_)
        · have hge : 0 ≤ (stAt p c.toNat l i).he := of_decide_eq_true h2
          (conv => arg 1; whnf); (repeat' (first | (refine brt (by assumption) ?_; (conv => arg 1; whnf)) | (refine brf (by assumption) ?_; (conv => arg 1; whnf)) | fail))
          refine br (fun h3 => ?_) (fun h3 => ?_)
          · have hfl : (p.ws.getD (l.getD (i : Int).toNat eI.dflt).toNat eWn.dflt).fl = (stAt p c.toNat l i).fl := of_decide_eq_true h3
            rw [ef] at hfl
            have e : stAt p c.toNat l (i + 1) = stAt p c.toNat l i := by
              rw [en]
              unfold nextS
              rw [decide_eq_true hfl.symm, decide_eq_false (by omega : ¬ (stAt p c.toNat l i).he = -1)]; rfl
            (conv => arg 1; whnf); (repeat' (first | (refine brt (by assumption) ?_; (conv => arg 1; whnf)) | (refine brf (by assumption) ?_; (conv => arg 1; whnf)) | fail))
            refine again (i + 1, t) [0] ⟨by show i + 1 ≤ _; omega, by simp only [e]; exact ht⟩ (by show a.toNat + 1 - (i + 1) < a.toNat + 1 - i; omega) (by decide) ?_ ?_ rfl
            · simp only [e]
              repeat' (first | exact True.intro | exact Fit.dead _ | exact Fit.v _ | exact .p rfl | exact row_self eI _ | exact Fit.v' (congrArg (Value.int .i64) (nxt i (by omega)).symm) | refine And.intro ?_ ?_)
            · exact ⟨⟨_, rfl, .lit (by repeat' (first | exact True.intro | exact Fit.v _ | exact row_self eRd _ | exact row_self eWn _ | refine And.intro ?_ ?_))⟩, trivial⟩
          · have hfl : ¬ (p.ws.getD (l.getD (i : Int).toNat eI.dflt).toNat eWn.dflt).fl = (stAt p c.toNat l i).fl := of_decide_eq_false h3
            rw [ef] at hfl
            have hlv := hlv (by omega)
            have e : stAt p c.toNat l (i + 1) = ⟨flr p w, (stAt p c.toNat l i).lv + p.s.travel (stAt p c.toNat l i).fl (flr p w), (stAt p c.toNat l i).lv + p.s.travel (stAt p c.toNat l i).fl (flr p w) + p.s.op + p.s.wa + p.s.cl + 2⟩ := by
              rw [en]
              unfold nextS
              rw [decide_eq_false (fun e => hfl e.symm : ¬ (stAt p c.toNat l i).fl = flr p w), decide_eq_false (by omega : ¬ (stAt p c.toNat l i).he = -1)]; rfl
            (conv => arg 1; whnf); (repeat' (first | (refine brt (by assumption) ?_; (conv => arg 1; whnf)) | (refine brf (by assumption) ?_; (conv => arg 1; whnf)) | fail))
            have ew : IntKind.i64.wrap (IntKind.i64.wrap (IntKind.i64.wrap (IntKind.i64.wrap ((stAt p c.toNat l i).he + p.s.op) + p.s.wa) + p.s.cl) + 2) = (stAt p c.toNat l i).lv := by
              rw [i64w ((stAt p c.toNat l i).he + p.s.op) (by omega) (by omega), i64w ((stAt p c.toNat l i).he + p.s.op + p.s.wa) (by omega) (by omega), i64w ((stAt p c.toNat l i).he + p.s.op + p.s.wa + p.s.cl) (by omega) (by omega), i64w _ (by omega) (by omega)]; omega
            refine again (i + 1, IntKind.i64.wrap (IntKind.i64.wrap (IntKind.i64.wrap (IntKind.i64.wrap ((stAt p c.toNat l i).he + p.s.op) + p.s.wa) + p.s.cl) + 2)) [0] ⟨by show i + 1 ≤ _; omega, by simp only [e]; intro h; omega⟩ (by show a.toNat + 1 - (i + 1) < a.toNat + 1 - i; omega) (by decide) ?_ ?_ rfl
            · simp only [e]
              repeat' (first | exact True.intro | exact Fit.dead _ | exact Fit.v _ | exact .p rfl | exact row_self eI _ | exact Fit.v' (congrArg (Value.int .i64) (nxt i (by omega)).symm) | exact Fit.v' (congrArg (Value.int .i64) ef.symm) | exact Fit.v' (congrArg (Value.int .i64) (show (stAt p c.toNat l i).lv + p.s.travel (stAt p c.toNat l i).fl (flr p w) = IntKind.i64.wrap (IntKind.i64.wrap (IntKind.i64.wrap (IntKind.i64.wrap (IntKind.i64.wrap ((stAt p c.toNat l i).he + p.s.op) + p.s.wa) + p.s.cl) + 2) + p.s.travel (stAt p c.toNat l i).fl (p.ws.getD (l.getD (i : Int).toNat eI.dflt).toNat eWn.dflt).fl) by rw [ew, ef, i64w _ (by omega) (by omega)])) | refine And.intro ?_ ?_)
            · exact ⟨⟨_, rfl, .lit (by repeat' (first | exact True.intro | exact Fit.v _ | exact row_self eRd _ | exact row_self eWn _ | refine And.intro ?_ ?_))⟩, trivial⟩
        · have hlt : (stAt p c.toNat l i).he = -1 := by
            have hn : ¬ (0 ≤ (stAt p c.toNat l i).he) := of_decide_eq_false h2
            omega
          have ht := ht hlt
          have e : stAt p c.toNat l (i + 1) = ⟨flr p w, (stAt p c.toNat l i).lv + p.s.travel (stAt p c.toNat l i).fl (flr p w), (stAt p c.toNat l i).lv + p.s.travel (stAt p c.toNat l i).fl (flr p w) + p.s.op + p.s.wa + p.s.cl + 2⟩ := by
            rw [en]
            unfold nextS
            rw [decide_eq_true hlt]; rfl
          (conv => arg 1; whnf); (repeat' (first | (refine brt (by assumption) ?_; (conv => arg 1; whnf)) | (refine brf (by assumption) ?_; (conv => arg 1; whnf)) | fail))
          refine again (i + 1, t) [0] ⟨by show i + 1 ≤ _; omega, by simp only [e]; intro h; omega⟩ (by show a.toNat + 1 - (i + 1) < a.toNat + 1 - i; omega) (by decide) ?_ ?_ rfl
          · simp only [e]
            repeat' (first | exact True.intro | exact Fit.dead _ | exact Fit.v _ | exact .p rfl | exact row_self eI _ | exact Fit.v' (congrArg (Value.int .i64) (nxt i (by omega)).symm) | exact Fit.v' (congrArg (Value.int .i64) ef.symm) | exact Fit.v' (congrArg (Value.int .i64) (show (stAt p c.toNat l i).lv + p.s.travel (stAt p c.toNat l i).fl (flr p w) = IntKind.i64.wrap (t + p.s.travel (stAt p c.toNat l i).fl (p.ws.getD (l.getD (i : Int).toNat eI.dflt).toNat eWn.dflt).fl) by rw [ht, ef, i64w _ (by omega) (by omega)])) | refine And.intro ?_ ?_)
          · exact ⟨⟨_, rfl, .lit (by repeat' (first | exact True.intro | exact Fit.v _ | exact row_self eRd _ | exact row_self eWn _ | refine And.intro ?_ ?_))⟩, trivial⟩
      · have hia : i = a.toNat + 1 := by have := of_decide_eq_false h1; omega
        (conv => arg 1; whnf); (repeat' (first | (refine brt (by assumption) ?_; (conv => arg 1; whnf)) | (refine brf (by assumption) ?_; (conv => arg 1; whnf)) | fail))
        refine leave ?_
        show tr _
        (conv => arg 1; whnf); (repeat' (first | (refine brt (by assumption) ?_; (conv => arg 1; whnf)) | (refine brf (by assumption) ?_; (conv => arg 1; whnf)) | fail))
        exact finI (by rw [hia])
end Go.Proofs.Ytglpeibbkkikgaa.E
