/- The laws BoundLeast and BoundRises, by the engine. -/
import Derived.Test.YtglpeibbkkikgaaBoundRiseE
import Derived.Test.YtglpeibbkkikgaaBoundRefE
import Derived.Test.YtglpeibbkkikgaaBoundBegE
import Derived.Test.YtglpeibbkkikgaaBoundSpeakE
namespace Go.Proofs.Ytglpeibbkkikgaa.E
open Go NumMath
set_option linter.unusedSimpArgs false
set_option linter.unusedVariables false
set_option maxRecDepth 100000
set_option maxHeartbeats 8000000
noncomputable def XBL : Cx := ((((((XN0.add 28 .pure (pureCtr (fn0 (giv true (boo true))))).add 13 (.foot reads2) (freshCtr greatG)).add 17 (.foot reads2) (freshCtr feasG)).add 23 (.foot reads2) (freshCtr rcostG)).add 29 (.foot reads2) (freshCtr beginsG)).add 31 (.foot reads2) (freshCtr leastG)).tabs.join 200012
theorem XBL_ok : CxOk Try.prog XBL := ((((((XN0_ok.pure speaks11_ok).fresh great_ok).fresh rfeas_ok).fresh rcost_ok).fresh begins_ok).fresh least_ok).tabs.join 200012 rfl
theorem pick_lt (x : Int) {n : Nat} (hn : 0 < n) : ∃ c : Nat, (bits .and .i64 x 65535).tmod (n : Int) = (c : Int) ∧ c < n := by
  rw [and65535]
  have h0 : 0 ≤ x % 65536 := Int.emod_nonneg _ (by decide)
  rw [Int.tmod_eq_emod_of_nonneg h0]
  have h2 := Int.emod_nonneg (x % 65536) (show (n : Int) ≠ 0 by omega)
  have h3 := Int.emod_lt_of_pos (x % 65536) (show 0 < (n : Int) by omega)
  exact ⟨((x % 65536) % (n : Int)).toNat, by omega, by omega⟩
theorem all3 {f : AV → Bool} {a b c : AV} (ha : f a = true) (hb : f b = true) (hc : f c = true) : [a, b, c].all f = true := by simp only [List.all_cons, List.all_nil, ha, hb, hc, Bool.and_true]
theorem planRows0 {pl : List (List Int)} (h : pl.length < 281474976710656) (h2 : ∀ l ∈ pl, l.length < 281474976710656) : (Nat.beq 1 1 && (okRR eI pl.length (fun k => [row eI (pl.getD (0 + k) [])]) && Nat.blt pl.length 281474976710656)) = true := by
  simp only [Nat.zero_add]; exact planRows h h2
theorem rowsRR0 {pl : List (List Int)} : rowsRR eI pl.length (fun k => [row eI (pl.getD (0 + k) [])]) = pl := by
  simp only [Nat.zero_add]; exact rowsRR_row
theorem begins_beg {pl : List (List Int)} {k i : Nat} (hk : k < pl.length) (hi : i ≤ (pl.getD k []).length) : beginsB pl (k : Int) (beg pl k i) = true := by
  unfold beginsB
  rw [Int.toNat_natCast, beg_len, beg_get hk, if_neg (show ¬ k < k by omega), if_pos rfl, List.length_take, Nat.min_eq_left hi]
  simp only [Bool.and_eq_true, decide_eq_true_eq, List.all_eq_true, List.mem_range]
  refine ⟨⟨by omega, by omega, by omega, hi⟩, fun c hc => ?_, trivial⟩
  rw [beg_get (by omega), if_pos hc]
/-- A cell that holds a row. -/
def IsR1 (us : List AV) (l : List Int) : Prop := okR1 eI us = true ∧ rowR1 eI us = l
theorem IsR1.row {l : List Int} (h : l.length < 281474976710656) : IsR1 [row eI l] l := ⟨isRow_row eI h, rows_row eI l⟩
theorem IsR1.of {m : Nat} {g : Nat → List AV} {l : List Int} (h : RowIs eI m g l) (hl : l.length < 281474976710656) : IsR1 [.i 1 m g] l := ⟨h.isRow eI hl, h.rows eI⟩
theorem IsR1.nil : IsR1 [.v (.slice none 0 0)] [] := ⟨rfl, rfl⟩
theorem rr_is {n : Nat} {g : Nat → List AV} {pl : List (List Int)} (hn : pl.length = n) (h : ∀ k, k < n → IsR1 (g k) (pl.getD k [])) : okRR eI n g = true ∧ rowsRR eI n g = pl := by
  refine ⟨List.all_eq_true.2 fun k hk => (h k (List.mem_range.1 hk)).1, ?_⟩
  apply List.ext_getElem
  · simp [rowsRR, hn]
  · intro k h1 h2
    have := (h k (by omega)).2
    rw [List.getD_eq_getElem?_getD, List.getElem?_eq_getElem h2, Option.getD_some] at this
    simpa [rowsRR] using this
theorem rr_cond {n : Nat} {g : Nat → List AV} {pl : List (List Int)} (hn : pl.length = n) (hl : n < 281474976710656) (h : ∀ k, k < n → IsR1 (g k) (pl.getD k [])) : (Nat.beq 1 1 && (okRR eI n g && Nat.blt n 281474976710656)) = true := by
  rw [(rr_is hn h).1]; simp [Nat.blt_eq, hl]
theorem BoundLeast (us : List AV) (h : areArgs tt [27, 29, 3, 3] us) : ∃ us', FitL [] [] us' us ∧ runF XBL Try.f10 us' [] (boo true) [] := by
  obtain ⟨_, _, rfl, h1, _, _, rfl, h2, _, _, rfl, h3, _, _, rfl, h4, rfl⟩ := h
  obtain ⟨p, rfl, hp1, hp2⟩ := snap_arg h1
  obtain ⟨pl, hf2, hp3, hp4⟩ := plan_arg h2
  obtain ⟨car, rfl, _, _⟩ := int_arg h3
  obtain ⟨cut, rfl, _, _⟩ := int_arg h4
  refine ⟨[p.av, rrow eI pl, i64 car, i64 cut], ⟨Fit.al (by repeat' (first | exact True.intro | exact Fit.v _ | exact row_self eRd _ | exact row_self eWn _ | refine And.intro ?_ ?_)), hf2, .v _, .v _, trivial⟩, ?_⟩
  clear h1 h2 h3 h4 hf2
  have fe : feasB p.rd (rowsRR eI pl.length fun k => [row eI (pl.getD k [])]) = feasB p pl := by rw [p.rd_eq, rowsRR_row]
  unfold runF
  (conv => arg 1; whnf); (repeat' (first | (refine brt (by assumption) ?_; (conv => arg 1; whnf)) | (refine brf (by assumption) ?_; (conv => arg 1; whnf)) | fail))
  (refine brt ?_ ?_; (focus (exact and2 rfl (and2 (and2 rfl (planRows hp3 hp4)) (snapRows hp1 hp2)); done)); (conv => arg 1; whnf))
  refine br (fun h => ?_) (fun h => ?_)
  · (conv => arg 1; whnf); (repeat' (first | (refine brt (by assumption) ?_; (conv => arg 1; whnf)) | (refine brf (by assumption) ?_; (conv => arg 1; whnf)) | fail))
    exact finB rfl
  have h' : greatB p.rd (rowsRR eI pl.length fun k => [row eI (pl.getD k [])]) = false := h
  rw [p.rd_eq, rowsRR_row] at h'
  obtain ⟨g1, g2, g3, g4⟩ := great_no h'
  have hls : ∀ l ∈ pl, l.length ≤ 1000 := fun l hl => by have := g4 l hl; omega
  have hls9 : ∀ l ∈ pl, l.length ≤ 900 := fun l hl => by have := g4 l hl; omega
  have hls' : (pl.all fun l => decide (l.length ≤ 1000)) = true := List.all_eq_true.2 fun l hl => decide_eq_true (hls l hl)
  have C1 := and2 (and2 (a := (rowsRR eI pl.length fun k => [row eI (pl.getD k [])]).all fun l => decide (l.length ≤ 1000)) (by rw [rowsRR_row]; exact hls') (planRows hp3 hp4)) (snapRows hp1 hp2)
  (conv => arg 1; whnf); (repeat' (first | (refine brt (by assumption) ?_; (conv => arg 1; whnf)) | (refine brf (by assumption) ?_; (conv => arg 1; whnf)) | fail))
  refine br (fun h1 => ?_) (fun h1 => ?_)
  · (conv => arg 1; whnf); (repeat' (first | (refine brt (by assumption) ?_; (conv => arg 1; whnf)) | (refine brf (by assumption) ?_; (conv => arg 1; whnf)) | fail))
    exact finB rfl
  have h1 : (!(feasB p.rd (rowsRR eI pl.length fun k => [row eI (pl.getD k [])]))) = false := h1
  rw [fe] at h1
  have hfea : feasB p pl = true := by simpa using h1
  obtain ⟨hr, hpl, hent, hone⟩ := feas_ent hfea
  obtain ⟨b1, b2, b3, b4, b5⟩ := Snap.right_bd hr
  have hb := Site.right_bd b1
  have hn0 : 0 < pl.length := by omega
  obtain ⟨k, hk, hkl⟩ := pick_lt car hn0
  have q0 : (!(decide ((pl.length : Int) = 0))) = true := by rw [decide_eq_false (by omega : ¬ (pl.length : Int) = 0)]; rfl
  have C3 := and2 (and2 (and2 (a := feasB p.rd (rowsRR eI pl.length fun k => [row eI (pl.getD k [])])) (b := (rowsRR eI pl.length fun k => [row eI (pl.getD k [])]).all fun l => decide (l.length ≤ 1000)) (by rw [fe]; exact hfea) (by rw [rowsRR_row]; exact hls')) (planRows hp3 hp4)) (snapRows hp1 hp2)
  (conv => arg 1; whnf); (repeat' (first | (refine brt (by assumption) ?_; (conv => arg 1; whnf)) | (refine brf (by assumption) ?_; (conv => arg 1; whnf)) | fail))
  rw [hk, show waitsL p.rd (rowsRR eI pl.length fun k => [row eI (pl.getD k [])]) = waitsL p pl by rw [p.rd_eq, rowsRR_row]]
  have q2 : (decide (0 ≤ (pl.length : Int)) && Nat.ble (pl.length : Int).toNat 1073741823) = true := by simp [Nat.ble_eq]; omega
  (conv => arg 1; whnf); (repeat' (first | (refine brt (by assumption) ?_; (conv => arg 1; whnf)) | (refine brf (by assumption) ?_; (conv => arg 1; whnf)) | fail))
  refine loopM [1, 3, 4, 9, 10, 11] (fun c : Nat => c ≤ k) (fun c => [(12, i64 c)]) (fun c => [(1, .tab 1 pl.length fun j => if j < c then [row eI (pl.getD j [])] else [.v (.slice none 0 0)])]) (fun c => k - c) 0 (Nat.zero_le _) rfl ?_ ?_ fun c hi => ?_
  · repeat' (first | exact True.intro | exact Fit.dead _ | exact Fit.v _ | exact .i fun _ _ => rfl | exact Fit.ip | exact .p rfl | exact .q rfl | exact .s rfl | exact .y rfl | exact Fit.z | exact ⟨_, rfl, .gone _⟩ | exact ⟨_, rfl, .lrec _⟩ | exact ⟨_, rfl, .held⟩ | exact ⟨_, rfl, .tab fun _ _ => rfl⟩ | refine Fit.al ?_ | refine Fit.fl ?_ ?_ | refine ⟨_, rfl, .lit ?_⟩ | refine And.intro ?_ ?_)
  · repeat' (first | exact True.intro | exact Fit.dead _ | exact Fit.v _ | exact .i fun _ _ => rfl | exact Fit.ip | exact .p rfl | exact .q rfl | exact .s rfl | exact .y rfl | exact Fit.z | exact ⟨_, rfl, .gone _⟩ | exact ⟨_, rfl, .lrec _⟩ | exact ⟨_, rfl, .held⟩ | exact ⟨_, rfl, .tab fun _ _ => rfl⟩ | refine Fit.al ?_ | refine Fit.fl ?_ ?_ | refine ⟨_, rfl, .lit ?_⟩ | refine And.intro ?_ ?_)
  have hi : c ≤ k := hi
  (conv => arg 1; whnf)
  refine br (fun h2 => ?_) (fun h2 => ?_)
  · have hlt : c < k := by have := of_decide_eq_true h2; omega
    have ec : (c : Int).toNat = c := by omega
    have e1 : (decide (0 ≤ (c : Int)) && decide ((c : Int) < (pl.length : Int))) = true := by simp only [Bool.and_eq_true, decide_eq_true_eq]; omega
    have e2 : decide (0 + (c : Int).toNat < pl.length) = true := decide_eq_true (by omega)
    (conv => arg 1; whnf); (repeat' (first | (refine brt (by assumption) ?_; (conv => arg 1; whnf)) | (refine brf (by assumption) ?_; (conv => arg 1; whnf)) | fail))
    refine again (c + 1) [0, 1] (by show c + 1 ≤ k; omega) (by show k - (c + 1) < k - c; omega) (by decide) ?_ ?_ rfl
    · repeat' (first | exact True.intro | exact Fit.dead _ | exact Fit.v _ | exact .p rfl | exact .s rfl | exact .i fun _ _ => rfl | exact Fit.v' (congrArg (Value.int .i64) (nxt c (by omega)).symm) | refine And.intro ?_ ?_)
    · refine ⟨⟨_, rfl, .lit (by repeat' (first | exact True.intro | exact Fit.v _ | exact row_self eRd _ | exact row_self eWn _ | refine And.intro ?_ ?_))⟩, ⟨_, rfl, .tab fun j hj => ?_⟩, trivial⟩
      rw [ec, Nat.zero_add]
      dsimp only
      by_cases e : j = c
      · subst e; rw [if_pos (show j < j + 1 by omega), if_pos rfl, if_neg (show ¬ j < j by omega)]; rfl
      · rw [if_neg e]
        by_cases e' : j < c
        · rw [if_pos e', if_pos (by omega)]
        · rw [if_neg e', if_neg (by omega)]
  · have hck : c = k := by have := of_decide_eq_false h2; omega
    subst hck
    have ec : (c : Int).toNat = c := by omega
    have e1 : (decide (0 ≤ (c : Int)) && decide ((c : Int) < (pl.length : Int))) = true := by simp only [Bool.and_eq_true, decide_eq_true_eq]; omega
    (conv => arg 1; whnf); (repeat' (first | (refine brt (by assumption) ?_; (conv => arg 1; whnf)) | (refine brf (by assumption) ?_; (conv => arg 1; whnf)) | fail))
    refine leave ?_
    show tr _
    obtain ⟨C, hC⟩ : ∃ C, C = (waitsL p pl).sum := ⟨_, rfl⟩
    rw [← hC]
    obtain ⟨l, hl⟩ : ∃ l, l = pl.getD c [] := ⟨_, rfl⟩
    have hl' : pl.getD (c : Int).toNat [] = l := by rw [ec, hl]
    have hll : l.length ≤ 900 := by rw [hl]; exact hls9 _ (mem_getD hkl)
    have hw1 : IntKind.i64.wrap ((l.length : Int) + 1) = ((l.length + 1 : Nat) : Int) := nxt _ (by omega)
    clear C1 C3 q2 e1 hi h2
    obtain ⟨i, hi1, hil⟩ := pick_lt cut (n := l.length + 1) (by omega)
    have q3 : (!(decide (IntKind.i64.wrap (((pl.getD (c : Int).toNat []).length : Int) + 1) = 0))) = true := by rw [hl', hw1, decide_eq_false (by omega)]; rfl
    have e1 : (decide (0 ≤ (c : Int)) && decide ((c : Int) < (pl.length : Int))) = true := by simp only [Bool.and_eq_true, decide_eq_true_eq]; omega
    (conv => arg 1; whnf); (repeat' (first | (refine brt (by assumption) ?_; (conv => arg 1; whnf)) | (refine brf (by assumption) ?_; (conv => arg 1; whnf)) | fail))
    refine joinIn (fun _ : Unit => True) (fun _ => frm 106 [(1, rrow eI pl), (4, .p 0 0), (9, i64 C), (10, i64 c), (11, .s 1 1 0 pl.length)]) (fun _ => [.lit (snapC p), .tab 1 pl.length fun k => [row eI ((beg pl c i).getD k [])]]) ?_ (fun _ _ => ?_)
    · (conv => arg 1; whnf); (repeat' (first | (refine brt (by assumption) ?_; (conv => arg 1; whnf)) | (refine brf (by assumption) ?_; (conv => arg 1; whnf)) | fail))
      rw [hl', hw1, hi1]
      have q4 : (decide ((0 : Int) ≤ 0) && (decide ((0 : Int) ≤ (i : Int)) && (decide ((i : Int) ≤ (l.length : Int)) && decide ((l.length : Int) ≤ (l.length : Int))))) = true := by simp only [Bool.and_eq_true, decide_eq_true_eq]; omega
      have q5 : decide (0 + (c : Int).toNat < pl.length) = true := decide_eq_true (by omega)
      (conv => arg 1; whnf); (repeat' (first | (refine brt (by assumption) ?_; (conv => arg 1; whnf)) | (refine brf (by assumption) ?_; (conv => arg 1; whnf)) | fail))
      refine joinTo () [0, 1] trivial (by decide) ?_ ?_ rfl
      · repeat' (first | exact True.intro | exact Fit.dead _ | exact Fit.v _ | exact .p rfl | exact .s rfl | exact .i fun _ _ => rfl | refine And.intro ?_ ?_)
      · refine ⟨⟨_, rfl, .lit (by repeat' (first | exact True.intro | exact Fit.v _ | exact row_self eRd _ | exact row_self eWn _ | refine And.intro ?_ ?_))⟩, ⟨_, rfl, .tp (fun k hk => ?_) fun k hk u hu => ?_⟩, trivial⟩
        · dsimp only
          rw [beg_get hk, ec, Nat.zero_add]
          by_cases e : k = c
          · subst e
            simp only [Nat.lt_irrefl, if_true, if_false]
            have := RowIs.part eI (RowIs.row eI (pl.getD k [])) (o := 0) (m := i) (by rw [← hl]; omega)
            have h2 := this.rows eI
            rw [List.drop_zero, ← hl] at h2
            rw [← hl]
            exact ⟨fit_row eI (by rw [← hl] at this; exact this.okRow eI) h2, trivial⟩
          · by_cases e' : k < c
            · simp only [if_neg e, if_pos e']; exact ⟨row_self eI _, trivial⟩
            · simp only [if_neg e, if_neg e']; exact ⟨.ni, trivial⟩
        · obtain rfl := List.mem_singleton.1 hu; rfl
    · have hB := beg_bdl hls9 c i
      have hBl := beg_len pl c i
      have hN := least_beg hfea hls9 hkl (i := i) (by rw [← hl]; omega)
      have hE := least_beg hfea hls9 (k := pl.length - 1) (i := (pl.getD (pl.length - 1) []).length) (by omega) (Nat.le_refl _)
      have hLB := lb_all hfea (pl.length - c - 1) c i (by omega) (by rw [← hl]; omega)
      rw [beg_whole (by omega), lb_end hfea (by omega)] at hE
      have hwS := waits_sum hfea hls
      obtain ⟨bl, hbl⟩ : ∃ bl, bl = beg pl c i := ⟨_, rfl⟩
      rw [← hbl] at hB hBl hN
      rw [← hbl, ← hBl]
      have hB3 : bl.length < 281474976710656 := by omega
      have hB4 : ∀ l ∈ bl, l.length < 281474976710656 := fun l hl => by have := hB l hl; omega
      have hS : vokD [.lit (snapC p), .tab 1 bl.length fun k => [row eI (bl.getD k [])]] (.s 1 1 0 bl.length) = true := decide_eq_true (by omega : 0 + bl.length ≤ bl.length)
      (conv => arg 1; whnf); (repeat' (first | (refine brt (by assumption) ?_; (conv => arg 1; whnf)) | (refine brf (by assumption) ?_; (conv => arg 1; whnf)) | fail))
      (refine brt ?_ ?_; (focus (exact and2 (all3 rfl rfl hS) (and2 (and2 (and2 (by show ((rowsRR eI bl.length fun k => [row eI (bl.getD (0 + k) [])]).all fun l => decide (l.length ≤ 900)) = true; rw [rowsRR0]; exact List.all_eq_true.2 fun l hl => decide_eq_true (hB l hl)) (planRows0 hB3 hB4)) rfl) (snapRows hp1 hp2)); done)); (conv => arg 1; whnf))
      have w1 : leastR2 p.rd (c : Int) (rowsRR eI bl.length fun k => [row eI (bl.getD (0 + k) [])]) = (min 1099511627776 (lb p pl c i), 0) := by rw [p.rd_eq, rowsRR0]; exact hN
      rw [w1]
      (refine brt ?_ ?_; (focus (exact and2 (all3 rfl rfl rfl) (and2 (and2 (and2 (by rw [rowsRR_row]; exact List.all_eq_true.2 fun l hl => decide_eq_true (hls9 l hl)) (planRows hp3 hp4)) rfl) (snapRows hp1 hp2)); done)); (conv => arg 1; whnf))
      have w2 : leastR2 p.rd (IntKind.i64.wrap ((pl.length : Int) - 1)) (rowsRR eI pl.length fun k => [row eI (pl.getD k [])]) = (min 1099511627776 (waitsL p pl).sum, 0) := by
        rw [p.rd_eq, rowsRR_row, i64w _ (by omega) (by omega), ← hE]
        congr 1
        omega
      rw [w2]
      have d1 : decide (((min 1099511627776 (lb p pl c i), (0 : Int)) : Int × Int).1 ≤ C) = true := decide_eq_true (by show min 1099511627776 (lb p pl c i) ≤ C; omega)
      have d2 : beginsB (rowsRR eI pl.length fun k => [row eI (pl.getD k [])]) (c : Int) (rowsRR eI bl.length fun k => [row eI (bl.getD (0 + k) [])]) = true := by rw [rowsRR_row, rowsRR0, hbl]; exact begins_beg hkl (by rw [← hl]; omega)
      have CB : ((((rowsRR eI pl.length fun k => [row eI (pl.getD k [])]).all fun l => decide (l.length ≤ 1000)) && ((rowsRR eI bl.length fun k => [row eI (bl.getD (0 + k) [])]).all fun l => decide (l.length ≤ 1000)))) = true := by
        rw [rowsRR_row, rowsRR0]; exact and2 hls' (List.all_eq_true.2 fun l hl => decide_eq_true (by have := hB l hl; omega))
      (conv => arg 1; whnf); (repeat' (first | (refine brt (by assumption) ?_; (conv => arg 1; whnf)) | (refine brf (by assumption) ?_; (conv => arg 1; whnf)) | fail))
      (refine brt ?_ ?_; (focus (exact and2 (all3 rfl rfl hS) (and2 (and2 (and2 CB (planRows0 hB3 hB4)) rfl) (planRows hp3 hp4)); done)); (conv => arg 1; whnf))
      (conv => arg 1; whnf); (repeat' (first | (refine brt (by assumption) ?_; (conv => arg 1; whnf)) | (refine brf (by assumption) ?_; (conv => arg 1; whnf)) | fail))
      refine finB ?_
      show true = decide (((min 1099511627776 (waitsL p pl).sum, (0 : Int)) : Int × Int).1 = C)
      rw [hC]
      exact (decide_eq_true (by show min 1099511627776 (waitsL p pl).sum = _; omega)).symm
