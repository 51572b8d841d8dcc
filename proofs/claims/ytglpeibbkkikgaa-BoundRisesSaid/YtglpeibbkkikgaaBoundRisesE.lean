/- The law BoundRises, by the engine. -/
import Derived.Test.YtglpeibbkkikgaaBoundLawE
namespace Go.Proofs.Ytglpeibbkkikgaa.E
open Go NumMath
set_option linter.unusedSimpArgs false
set_option linter.unusedVariables false
set_option maxRecDepth 100000
set_option maxHeartbeats 8000000
noncomputable def XBR : Cx := (((((XN0.add 28 .pure (pureCtr (fn0 (giv true (boo true))))).add 13 (.foot reads2) (freshCtr greatG)).add 17 (.foot reads2) (freshCtr feasG)).add 23 (.foot reads2) (freshCtr rcostG)).add 31 (.foot reads2) (freshCtr leastG)).tabs.join 200015
theorem XBR_ok : CxOk Try.prog XBR := (((((XN0_ok.pure speaks11_ok).fresh great_ok).fresh rfeas_ok).fresh rcost_ok).fresh least_ok).tabs.join 200015 rfl
theorem beg_next {pl : List (List Int)} {k : Nat} (hk : k + 1 < pl.length) : beg pl k (pl.getD k []).length = beg pl (k + 1) 0 := by
  unfold beg
  refine List.map_congr_left fun c hc => ?_
  rcases Nat.lt_trichotomy c k with h | rfl | h
  · rw [if_pos h, if_pos (show c < k + 1 by omega)]
  · rw [if_neg (show ¬ c < c by omega), if_pos rfl, if_pos (show c < c + 1 by omega), List.take_length]
  · rw [if_neg (show ¬ c < k by omega), if_neg (show ¬ c = k by omega), if_neg (show ¬ c < k + 1 by omega)]
    by_cases e : c = k + 1
    · rw [if_pos e, List.take_zero]
    · rw [if_neg e]
theorem lp_nn {p : Snap} (hr : p.right = true) {pl : List (List Int)} (hpl : pl.length = p.cs.length) (hl : ∀ c, c < pl.length → (pl.getD c []).length ≤ 1000) (car : Nat) (w : Int) {K : Nat} (hK : car + K ≤ pl.length) : 0 ≤ lp p car pl w K := by
  obtain ⟨g1, g2, g3⟩ := lw_bd hr hpl hl car w K hK
  omega
theorem lpS_nn {p : Snap} {pl : List (List Int)} (hf : feasB p pl = true) (hls : ∀ l ∈ pl, l.length ≤ 900) {k i : Nat} (hk : k < pl.length) (hi : i ≤ (pl.getD k []).length) : 0 ≤ lpS p pl k i := by
  obtain ⟨hr, hpl, hent, hone⟩ := feas_ent hf
  unfold lpS
  have : ∀ l : List Nat, 0 ≤ (l.map fun w : Nat => lp p k (beg pl k i) (w : Int) (pl.length - k)).sum := by
    intro l
    induction l with
    | nil => exact Int.le_refl _
    | cons w l ih =>
      have : 0 ≤ lp p k (beg pl k i) (w : Int) (pl.length - k) := lp_nn hr (by rw [beg_len]; exact hpl) (fun c hc => by have := beg_bdl hls k i ((beg pl k i).getD c []) (mem_getD hc); omega) k _ (by rw [beg_len]; omega)
      simp only [List.map_cons, List.sum_cons]; omega
  exact this _
theorem BoundRises (us : List AV) (h : areArgs tt [27, 29, 3, 3] us) : ∃ us', FitL [] [] us' us ∧ runF XBR Try.f11 us' [] (boo true) [] := by
  obtain ⟨_, _, rfl, h1, _, _, rfl, h2, _, _, rfl, h3, _, _, rfl, h4, rfl⟩ := h
  obtain ⟨p, rfl, hp1, hp2⟩ := snap_arg h1
  obtain ⟨pl, hf2, hp3, hp4⟩ := plan_arg h2
  obtain ⟨car, rfl, _, _⟩ := int_arg h3
  obtain ⟨cut, rfl, _, _⟩ := int_arg h4
  refine ⟨[p.av, rrow eI pl, i64 car, i64 cut], ⟨Fit.al (by repeat' (first | exact True.intro | exact Fit.v _ | exact row_self eRd _ | exact row_self eWn _ | refine And.intro ?_ ?_)), hf2, .v _, .v _, trivial⟩, ?_⟩
  clear h1 h2 h3 h4 hf2
  have fe : feasB p.rd (rowsRR eI pl.length fun k => [row eI (pl.getD k [])]) = feasB p pl := by rw [p.rd_eq, rowsRR_row]
  unfold runF
  (conv => arg 1; whnf); (repeat' (first | (refine brt (by assumption) ?_; (conv => arg 1; whnf)) | (refine brf (by assumption) ?_; (conv => arg 1; whnf)) | fail))
  (refine brt ?_ ?_; (focus (exact and2 rfl (and2 (and2 rfl (planRows hp3 hp4)) (snapRows hp1 hp2)); done)); (conv => arg 1; whnf))
  refine br (fun h => ?_) (fun h => ?_)
  · (conv => arg 1; whnf); (repeat' (first | (refine brt (by assumption) ?_; (conv => arg 1; whnf)) | (refine brf (by assumption) ?_; (conv => arg 1; whnf)) | fail))
    exact finB rfl
  have h' : greatB p.rd (rowsRR eI pl.length fun k => [row eI (pl.getD k [])]) = false := h
  rw [p.rd_eq, rowsRR_row] at h'
  obtain ⟨g1, g2, g3, g4⟩ := great_no h'
  have hls : ∀ l ∈ pl, l.length ≤ 1000 := fun l hl => by have := g4 l hl; omega
  have hls9 : ∀ l ∈ pl, l.length ≤ 900 := fun l hl => by have := g4 l hl; omega
  have hls' : (pl.all fun l => decide (l.length ≤ 1000)) = true := List.all_eq_true.2 fun l hl => decide_eq_true (hls l hl)
  have C1 := and2 (and2 (a := (rowsRR eI pl.length fun k => [row eI (pl.getD k [])]).all fun l => decide (l.length ≤ 1000)) (by rw [rowsRR_row]; exact hls') (planRows hp3 hp4)) (snapRows hp1 hp2)
  (conv => arg 1; whnf); (repeat' (first | (refine brt (by assumption) ?_; (conv => arg 1; whnf)) | (refine brf (by assumption) ?_; (conv => arg 1; whnf)) | fail))
  refine br (fun h1 => ?_) (fun h1 => ?_)
  · (conv => arg 1; whnf); (repeat' (first | (refine brt (by assumption) ?_; (conv => arg 1; whnf)) | (refine brf (by assumption) ?_; (conv => arg 1; whnf)) | fail))
    exact finB rfl
  have h1 : (!(feasB p.rd (rowsRR eI pl.length fun k => [row eI (pl.getD k [])]))) = false := h1
  rw [fe] at h1
  have hfea : feasB p pl = true := by simpa using h1
  obtain ⟨hr, hpl, hent, hone⟩ := feas_ent hfea
  obtain ⟨b1, b2, b3, b4, b5⟩ := Snap.right_bd hr
  have hb := Site.right_bd b1
  have hn0 : 0 < pl.length := by omega
  obtain ⟨k, hk, hkl⟩ := pick_lt car hn0
  have q0 : (!(decide ((pl.length : Int) = 0))) = true := by rw [decide_eq_false (by omega : ¬ (pl.length : Int) = 0)]; rfl
  have C3 := and2 (and2 (and2 (a := feasB p.rd (rowsRR eI pl.length fun k => [row eI (pl.getD k [])])) (b := (rowsRR eI pl.length fun k => [row eI (pl.getD k [])]).all fun l => decide (l.length ≤ 1000)) (by rw [fe]; exact hfea) (by rw [rowsRR_row]; exact hls')) (planRows hp3 hp4)) (snapRows hp1 hp2)
  (conv => arg 1; whnf); (repeat' (first | (refine brt (by assumption) ?_; (conv => arg 1; whnf)) | (refine brf (by assumption) ?_; (conv => arg 1; whnf)) | fail))
  rw [hk]
  have q2 : (decide (0 ≤ (pl.length : Int)) && Nat.ble (pl.length : Int).toNat 1073741823) = true := by simp [Nat.ble_eq]; omega
  (conv => arg 1; whnf); (repeat' (first | (refine brt (by assumption) ?_; (conv => arg 1; whnf)) | (refine brf (by assumption) ?_; (conv => arg 1; whnf)) | fail))
  refine loopM [1, 4, 9, 10] (fun c : Nat => c ≤ k) (fun c => [(11, i64 c)]) (fun c => [(1, .tab 1 pl.length fun j => if j < c then [row eI (pl.getD j [])] else [.v (.slice none 0 0)])]) (fun c => k - c) 0 (Nat.zero_le _) rfl ?_ ?_ fun c hi => ?_
  · repeat' (first | exact True.intro | exact Fit.dead _ | exact Fit.v _ | exact .i fun _ _ => rfl | exact Fit.ip | exact .p rfl | exact .q rfl | exact .s rfl | exact .y rfl | exact Fit.z | exact ⟨_, rfl, .gone _⟩ | exact ⟨_, rfl, .lrec _⟩ | exact ⟨_, rfl, .held⟩ | exact ⟨_, rfl, .tab fun _ _ => rfl⟩ | refine Fit.al ?_ | refine Fit.fl ?_ ?_ | refine ⟨_, rfl, .lit ?_⟩ | refine And.intro ?_ ?_)
  · repeat' (first | exact True.intro | exact Fit.dead _ | exact Fit.v _ | exact .i fun _ _ => rfl | exact Fit.ip | exact .p rfl | exact .q rfl | exact .s rfl | exact .y rfl | exact Fit.z | exact ⟨_, rfl, .gone _⟩ | exact ⟨_, rfl, .lrec _⟩ | exact ⟨_, rfl, .held⟩ | exact ⟨_, rfl, .tab fun _ _ => rfl⟩ | refine Fit.al ?_ | refine Fit.fl ?_ ?_ | refine ⟨_, rfl, .lit ?_⟩ | refine And.intro ?_ ?_)
  have hi : c ≤ k := hi
  (conv => arg 1; whnf)
  refine br (fun h2 => ?_) (fun h2 => ?_)
  · have hlt : c < k := by have := of_decide_eq_true h2; omega
    have ec : (c : Int).toNat = c := by omega
    have e1 : (decide (0 ≤ (c : Int)) && decide ((c : Int) < (pl.length : Int))) = true := by simp only [Bool.and_eq_true, decide_eq_true_eq]; omega
    have e2 : decide (0 + (c : Int).toNat < pl.length) = true := decide_eq_true (by omega)
    (conv => arg 1; whnf); (repeat' (first | (refine brt (by assumption) ?_; (conv => arg 1; whnf)) | (refine brf (by assumption) ?_; (conv => arg 1; whnf)) | fail))
    refine again (c + 1) [0, 1] (by show c + 1 ≤ k; omega) (by show k - (c + 1) < k - c; omega) (by decide) ?_ ?_ rfl
    · repeat' (first | exact True.intro | exact Fit.dead _ | exact Fit.v _ | exact .p rfl | exact .s rfl | exact .i fun _ _ => rfl | exact Fit.v' (congrArg (Value.int .i64) (nxt c (by omega)).symm) | refine And.intro ?_ ?_)
    · refine ⟨⟨_, rfl, .lit (by repeat' (first | exact True.intro | exact Fit.v _ | exact row_self eRd _ | exact row_self eWn _ | refine And.intro ?_ ?_))⟩, ⟨_, rfl, .tab fun j hj => ?_⟩, trivial⟩
      rw [ec, Nat.zero_add]
      dsimp only
      by_cases e : j = c
      · subst e; rw [if_pos (show j < j + 1 by omega), if_pos rfl, if_neg (show ¬ j < j by omega)]; rfl
      · rw [if_neg e]
        by_cases e' : j < c
        · rw [if_pos e', if_pos (by omega)]
        · rw [if_neg e', if_neg (by omega)]
  · have hck : c = k := by have := of_decide_eq_false h2; omega
    subst hck
    have ec : (c : Int).toNat = c := by omega
    have e1 : (decide (0 ≤ (c : Int)) && decide ((c : Int) < (pl.length : Int))) = true := by simp only [Bool.and_eq_true, decide_eq_true_eq]; omega
    (conv => arg 1; whnf); (repeat' (first | (refine brt (by assumption) ?_; (conv => arg 1; whnf)) | (refine brf (by assumption) ?_; (conv => arg 1; whnf)) | fail))
    refine leave ?_
    show tr _
    obtain ⟨l, hl⟩ : ∃ l, l = pl.getD c [] := ⟨_, rfl⟩
    have hl' : pl.getD (c : Int).toNat [] = l := by rw [ec, hl]
    have hll : l.length ≤ 900 := by rw [hl]; exact hls9 _ (mem_getD hkl)
    clear q2 e1 hi h2
    have e1 : (decide (0 ≤ (c : Int)) && decide ((c : Int) < (pl.length : Int))) = true := by simp only [Bool.and_eq_true, decide_eq_true_eq]; omega
    (conv => arg 1; whnf); (repeat' (first | (refine brt (by assumption) ?_; (conv => arg 1; whnf)) | (refine brf (by assumption) ?_; (conv => arg 1; whnf)) | fail))
    refine loopIn (fun i : Nat => i ≤ l.length + 1) (fun i => frm 107 [(1, rrow eI pl), (4, .p 0 0), (9, i64 c), (10, .s 1 1 0 pl.length), (12, i64 (if i = 0 then -1 else min 1099511627776 (lb p pl c (i - 1)))), (13, i64 i)]) (fun i => [.lit (snapC p), .tab 1 pl.length fun k => [row eI ((beg pl c (i - 1)).getD k [])]]) (fun i => l.length + 1 - i) 0 [0, 1] (Nat.zero_le _) (by decide) ?_ ?_ rfl fun i hi => ?_
    · repeat' (first | exact True.intro | exact Fit.dead _ | exact Fit.v _ | exact .p rfl | exact .s rfl | exact .i fun _ _ => rfl | refine And.intro ?_ ?_)
    · refine ⟨⟨_, rfl, .lit (by repeat' (first | exact True.intro | exact Fit.v _ | exact row_self eRd _ | exact row_self eWn _ | refine And.intro ?_ ?_))⟩, ⟨_, rfl, .tp (fun k hk => ?_) fun k hk u hu => ?_⟩, trivial⟩
      · dsimp only
        rw [beg_get hk]
        by_cases e' : k < c
        · simp only [if_pos e']; exact ⟨row_self eI _, trivial⟩
        · simp only [if_neg e']
          rw [show (if k = c then (pl.getD c []).take (0 - 1) else []) = ([] : List Int) by split <;> simp]
          exact ⟨.ni, trivial⟩
      · obtain rfl := List.mem_singleton.1 hu; rfl
    have hi : i ≤ l.length + 1 := hi
    (conv => arg 1; whnf); (repeat' (first | (refine brt (by assumption) ?_; (conv => arg 1; whnf)) | (refine brf (by assumption) ?_; (conv => arg 1; whnf)) | fail))
    refine br (fun h3 => ?_) (fun h3 => ?_)
    · have hil : i ≤ l.length := by
        have h4 : (i : Int) ≤ ((pl.getD (c : Int).toNat []).length : Int) := of_decide_eq_true h3
        rw [hl'] at h4; omega
      have q5 : decide (0 + (c : Int).toNat < pl.length) = true := decide_eq_true (by omega)
      obtain ⟨La, hLa⟩ : ∃ La, La = (if i = 0 then -1 else min 1099511627776 (lb p pl c (i - 1)) : Int) := ⟨_, rfl⟩
      rw [← hLa]
      have hLe : La ≤ min 1099511627776 (lb p pl c i) := by
        have n0 := lpS_nn hfea hls9 hkl (i := i) (by rw [← hl]; omega)
        have n1 := costS_part hfea hls hkl (j := i) (by rw [← hl]; omega)
        rw [hLa]
        by_cases e : i = 0
        · rw [if_pos e]; unfold lb; omega
        · rw [if_neg e]
          have := lb_step hfea hkl (i := i - 1) (by rw [← hl]; omega)
          rw [show i - 1 + 1 = i by omega] at this
          omega
      (conv => arg 1; whnf); (repeat' (first | (refine brt (by assumption) ?_; (conv => arg 1; whnf)) | (refine brf (by assumption) ?_; (conv => arg 1; whnf)) | fail))
      refine joinIn (fun _ : Unit => True) (fun _ => frm 107 [(1, rrow eI pl), (4, .p 0 0), (9, i64 c), (10, .s 1 1 0 pl.length), (12, i64 La), (13, i64 i)]) (fun _ => [.lit (snapC p), .tab 1 pl.length fun k => [row eI ((beg pl c i).getD k [])]]) ?_ (fun _ _ => ?_)
      · (conv => arg 1; whnf); (repeat' (first | (refine brt (by assumption) ?_; (conv => arg 1; whnf)) | (refine brf (by assumption) ?_; (conv => arg 1; whnf)) | fail))
        rw [hl']
        have q4 : (decide ((0 : Int) ≤ 0) && (decide ((0 : Int) ≤ (i : Int)) && (decide ((i : Int) ≤ (l.length : Int)) && decide ((l.length : Int) ≤ (l.length : Int))))) = true := by simp only [Bool.and_eq_true, decide_eq_true_eq]; omega
        (conv => arg 1; whnf); (repeat' (first | (refine brt (by assumption) ?_; (conv => arg 1; whnf)) | (refine brf (by assumption) ?_; (conv => arg 1; whnf)) | fail))
        refine joinTo () [0, 1] trivial (by decide) ?_ ?_ rfl
        · repeat' (first | exact True.intro | exact Fit.dead _ | exact Fit.v _ | exact .p rfl | exact .s rfl | exact .i fun _ _ => rfl | refine And.intro ?_ ?_)
        · refine ⟨⟨_, rfl, .lit (by repeat' (first | exact True.intro | exact Fit.v _ | exact row_self eRd _ | exact row_self eWn _ | refine And.intro ?_ ?_))⟩, ⟨_, rfl, .tp (fun k hk => ?_) fun k hk u hu => ?_⟩, trivial⟩
          · dsimp only
            rw [beg_get hk, beg_get hk, ec, Nat.zero_add]
            by_cases e : k = c
            · subst e
              simp only [Nat.lt_irrefl, if_true, if_false]
              have := RowIs.part eI (RowIs.row eI (pl.getD k [])) (o := 0) (m := i) (by rw [← hl]; omega)
              have h2 := this.rows eI
              rw [List.drop_zero, ← hl] at h2
              rw [← hl]
              exact ⟨fit_row eI (by rw [← hl] at this; exact this.okRow eI) h2, trivial⟩
            · by_cases e' : k < c
              · simp only [if_neg e, if_pos e']; exact ⟨row_self eI _, trivial⟩
              · simp only [if_neg e, if_neg e']; exact ⟨row_self eI _, trivial⟩
          · obtain rfl := List.mem_singleton.1 hu; rfl
      · have hB := beg_bdl hls9 c i
        have hBl := beg_len pl c i
        have hN := least_beg hfea hls9 hkl (i := i) (by rw [← hl]; omega)
        obtain ⟨bl, hbl⟩ : ∃ bl, bl = beg pl c i := ⟨_, rfl⟩
        rw [← hbl] at hB hBl hN
        rw [← hbl, ← hBl]
        have hB3 : bl.length < 281474976710656 := by omega
        have hB4 : ∀ l ∈ bl, l.length < 281474976710656 := fun l hl => by have := hB l hl; omega
        have hS : vokD [.lit (snapC p), .tab 1 bl.length fun k => [row eI (bl.getD k [])]] (.s 1 1 0 bl.length) = true := decide_eq_true (by omega : 0 + bl.length ≤ bl.length)
        have w1 : leastR2 p.rd (c : Int) (rowsRR eI bl.length fun k => [row eI (bl.getD (0 + k) [])]) = (min 1099511627776 (lb p pl c i), 0) := by rw [p.rd_eq, rowsRR0]; exact hN
        (conv => arg 1; whnf); (repeat' (first | (refine brt (by assumption) ?_; (conv => arg 1; whnf)) | (refine brf (by assumption) ?_; (conv => arg 1; whnf)) | fail))
        (refine brt ?_ ?_; (focus (exact and2 (all3 rfl rfl hS) (and2 (and2 (and2 (by show ((rowsRR eI bl.length fun k => [row eI (bl.getD (0 + k) [])]).all fun l => decide (l.length ≤ 900)) = true; rw [rowsRR0]; exact List.all_eq_true.2 fun l hl => decide_eq_true (hB l hl)) (planRows0 hB3 hB4)) rfl) (snapRows hp1 hp2)); done)); (conv => arg 1; whnf))
        rw [w1]
        have d1 : decide (((min 1099511627776 (lb p pl c i), (0 : Int)) : Int × Int).1 < La) = false := decide_eq_false (by show ¬ min 1099511627776 (lb p pl c i) < La; omega)
        (conv => arg 1; whnf); (repeat' (first | (refine brt (by assumption) ?_; (conv => arg 1; whnf)) | (refine brf (by assumption) ?_; (conv => arg 1; whnf)) | fail))
        refine again (i + 1) [0, 1] (by show i + 1 ≤ l.length + 1; omega) (by show l.length + 1 - (i + 1) < l.length + 1 - i; omega) (by decide) ?_ ?_ rfl
        · rw [if_neg (show ¬ i + 1 = 0 by omega), Nat.add_sub_cancel]
          repeat' (first | exact True.intro | exact Fit.dead _ | exact Fit.v _ | exact .p rfl | exact .s rfl | exact .i fun _ _ => rfl | exact Fit.v' (congrArg (Value.int .i64) (nxt i (by omega)).symm) | refine And.intro ?_ ?_)
        · rw [Nat.add_sub_cancel, ← hbl]
          exact ⟨⟨_, rfl, .lit (by repeat' (first | exact True.intro | exact Fit.v _ | exact row_self eRd _ | exact row_self eWn _ | refine And.intro ?_ ?_))⟩, ⟨_, rfl, .tab fun _ _ => rfl⟩, trivial⟩
    · have hil : i = l.length + 1 := by
        have h4 : ¬ (i : Int) ≤ ((pl.getD (c : Int).toNat []).length : Int) := of_decide_eq_false h3
        rw [hl'] at h4; omega
      subst hil
      rw [if_neg (show ¬ l.length + 1 = 0 by omega), Nat.add_sub_cancel]
      have hw1 : IntKind.i64.wrap ((c : Int) + 1) = ((c + 1 : Nat) : Int) := nxt _ (by omega)
      (conv => arg 1; whnf); (repeat' (first | (refine brt (by assumption) ?_; (conv => arg 1; whnf)) | (refine brf (by assumption) ?_; (conv => arg 1; whnf)) | fail))
      refine leave ?_
      show tr _
      (conv => arg 1; whnf); (repeat' (first | (refine brt (by assumption) ?_; (conv => arg 1; whnf)) | (refine brf (by assumption) ?_; (conv => arg 1; whnf)) | fail))
      rw [hw1]
      have hB := beg_bdl hls9 c l.length
      have hBl := beg_len pl c l.length
      obtain ⟨bl, hbl⟩ : ∃ bl, bl = beg pl c l.length := ⟨_, rfl⟩
      rw [← hbl] at hB hBl
      rw [← hbl]
      have hB3 : bl.length < 281474976710656 := by omega
      have hB4 : ∀ l ∈ bl, l.length < 281474976710656 := fun l hl => by have := hB l hl; omega
      have hwS := waits_sum hfea hls
      refine br (fun h5 => ?_) (fun h5 => ?_)
      · have hc1 : c + 1 = pl.length := by have := of_decide_eq_true h5; omega
        have hE := lb_end hfea hc1
        rw [← hl] at hE
        rw [hE]
        (conv => arg 1; whnf); (repeat' (first | (refine brt (by assumption) ?_; (conv => arg 1; whnf)) | (refine brf (by assumption) ?_; (conv => arg 1; whnf)) | fail))
        refine finB ?_
        rw [show waitsL p.rd (rowsRR eI pl.length fun k => [row eI (pl.getD k [])]) = waitsL p pl by rw [p.rd_eq, rowsRR_row]]
        exact (decide_eq_true (by omega)).symm
      · have hc1 : c + 1 < pl.length := by have := of_decide_eq_false h5; omega
        have hN := least_beg hfea hls9 hc1 (i := 0) (Nat.zero_le _)
        rw [← beg_next hc1, ← hl, ← hbl] at hN
        have hLN := lb_next hfea hc1
        rw [← hl] at hLN
        rw [← hBl]
        have hS : vokD [.lit (snapC p), .tab 1 bl.length fun k => [row eI (bl.getD k [])]] (.s 1 1 0 bl.length) = true := decide_eq_true (by omega : 0 + bl.length ≤ bl.length)
        have w1 : leastR2 p.rd (((c + 1 : Nat) : Int)) (rowsRR eI bl.length fun k => [row eI (bl.getD (0 + k) [])]) = (min 1099511627776 (lb p pl (c + 1) 0), 0) := by rw [p.rd_eq, rowsRR0]; exact hN
        (conv => arg 1; whnf); (repeat' (first | (refine brt (by assumption) ?_; (conv => arg 1; whnf)) | (refine brf (by assumption) ?_; (conv => arg 1; whnf)) | fail))
        rw [hw1]
        (refine brt ?_ ?_; (focus (exact and2 (all3 rfl rfl hS) (and2 (and2 (and2 (by show ((rowsRR eI bl.length fun k => [row eI (bl.getD (0 + k) [])]).all fun l => decide (l.length ≤ 900)) = true; rw [rowsRR0]; exact List.all_eq_true.2 fun l hl => decide_eq_true (hB l hl)) (planRows0 hB3 hB4)) rfl) (snapRows hp1 hp2)); done)); (conv => arg 1; whnf))
        rw [w1]
        (conv => arg 1; whnf); (repeat' (first | (refine brt (by assumption) ?_; (conv => arg 1; whnf)) | (refine brf (by assumption) ?_; (conv => arg 1; whnf)) | fail))
        refine finB ?_
        exact (decide_eq_true (by show min 1099511627776 (lb p pl c l.length) ≤ min 1099511627776 (lb p pl (c + 1) 0); omega)).symm
end Go.Proofs.Ytglpeibbkkikgaa.E
