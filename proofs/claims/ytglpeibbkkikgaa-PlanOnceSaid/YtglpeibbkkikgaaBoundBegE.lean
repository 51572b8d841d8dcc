/- bound.Begins, and the document's. -/
import Derived.Test.YtglpeibbkkikgaaBoundE
namespace Go.Proofs.Ytglpeibbkkikgaa.E
open Go NumMath
set_option linter.unusedSimpArgs false
set_option linter.unusedVariables false
set_option maxRecDepth 100000
set_option maxHeartbeats 8000000
theorem nxt' (k : Nat) (h : k < 281474976710656) : IntKind.i64.wrap ((k : Int) + 1) = ((k + 1 : Nat) : Int) := by rw [i64w _ (by omega) (by omega)]; omega
abbrev RR (l : List Int) : List Int := rows eI l.length fun i => eI.enc (l.getD i eI.dflt)
theorem RR_eq (l : List Int) : RR l = l := rows_row eI l
def beginsB (q : List (List Int)) (car : Int) (p : List (List Int)) : Bool := (decide (0 ≤ car) && (decide (car < (q.length : Int)) && (decide (car < (p.length : Int)) && decide ((p.getD car.toNat []).length ≤ (q.getD car.toNat []).length)))) && ((List.range car.toNat).all (fun c => decide (q.getD c [] = p.getD c [])) && decide ((q.getD car.toNat []).take (p.getD car.toNat []).length = p.getD car.toNat []))
def beginsG : List AV → Option (Bool × AV × St) := ad3 (adRR eI) adI (adRR eI) fun q car p => some ((q.all fun l => decide (l.length ≤ 1000)) && (p.all fun l => decide (l.length ≤ 1000)), boo (beginsB q car p), [])
theorem begins_ok : CtrOk Try.prog 29 (freshCtr beginsG) :=
  freshCtr_ok XB3_ok Try.func29 (by decide) rfl fun args u σn h => by
    obtain ⟨q, car, p, hf, ⟨hq3, hq4⟩, hcar, ⟨hp3, hp4⟩, hv⟩ := ad3_some h
    simp only [Option.some.injEq, Prod.mk.injEq, Bool.and_eq_true] at hv
    obtain ⟨⟨hlq, hlp⟩, rfl, rfl⟩ := hv
    refine ⟨plainNil, _, hf, ?_⟩
    clear h hf
    have hlq : ∀ l ∈ q, l.length ≤ 1000 := fun l hl => of_decide_eq_true (List.all_eq_true.1 hlq l hl)
    have hlp : ∀ l ∈ p, l.length ≤ 1000 := fun l hl => of_decide_eq_true (List.all_eq_true.1 hlp l hl)
    unfold runF
    (conv => arg 1; whnf)
    have hno : (¬ (0 ≤ car ∧ car < (q.length : Int) ∧ car < (p.length : Int) ∧ (p.getD car.toNat []).length ≤ (q.getD car.toNat []).length)) → beginsB q car p = false := fun hn => by
      unfold beginsB
      have : (decide (0 ≤ car) && (decide (car < (q.length : Int)) && (decide (car < (p.length : Int)) && decide ((p.getD car.toNat []).length ≤ (q.getD car.toNat []).length)))) = false := by
        rw [Bool.eq_false_iff]
        intro h
        simp only [Bool.and_eq_true, decide_eq_true_eq] at h
        exact hn h
      rw [this]; rfl
    cases h1 : decide (car < 0) with
    | true =>
      have := of_decide_eq_true h1
      (conv => arg 1; whnf); (repeat' (first | (refine brt (by assumption) ?_; (conv => arg 1; whnf)) | (refine brf (by assumption) ?_; (conv => arg 1; whnf)) | fail))
      exact finB (hno (by omega))
    | false =>
    have h1' := of_decide_eq_false h1
    cases h2 : decide ((q.length : Int) ≤ car) with
    | true =>
      have := of_decide_eq_true h2
      (conv => arg 1; whnf); (repeat' (first | (refine brt (by assumption) ?_; (conv => arg 1; whnf)) | (refine brf (by assumption) ?_; (conv => arg 1; whnf)) | fail))
      exact finB (hno (by omega))
    | false =>
    have h2' := of_decide_eq_false h2
    cases h3 : decide ((p.length : Int) ≤ car) with
    | true =>
      have := of_decide_eq_true h3
      (conv => arg 1; whnf); (repeat' (first | (refine brt (by assumption) ?_; (conv => arg 1; whnf)) | (refine brf (by assumption) ?_; (conv => arg 1; whnf)) | fail))
      exact finB (hno (by omega))
    | false =>
    have h3' := of_decide_eq_false h3
    have e1 : (decide (0 ≤ car) && decide (car < (q.length : Int))) = true := by simp only [Bool.and_eq_true, decide_eq_true_eq]; omega
    have e2 : (decide (0 ≤ car) && decide (car < (p.length : Int))) = true := by simp only [Bool.and_eq_true, decide_eq_true_eq]; omega
    cases h4 : decide (((q.getD car.toNat []).length : Int) < ((p.getD car.toNat []).length : Int)) with
    | true =>
      have := of_decide_eq_true h4
      (conv => arg 1; whnf); (repeat' (first | (refine brt (by assumption) ?_; (conv => arg 1; whnf)) | (refine brf (by assumption) ?_; (conv => arg 1; whnf)) | fail))
      exact finB (hno (by omega))
    | false =>
    have h4' := of_decide_eq_false h4
    have hgq : ∀ k, k < q.length → (q.getD k []).length ≤ 1000 := fun k hk => by rw [List.getD_eq_getElem?_getD, List.getElem?_eq_getElem hk]; exact hlq _ (List.getElem_mem hk)
    have hgp : ∀ k, k < p.length → (p.getD k []).length ≤ 1000 := fun k hk => by rw [List.getD_eq_getElem?_getD, List.getElem?_eq_getElem hk]; exact hlp _ (List.getElem_mem hk)
    (conv => arg 1; whnf); (repeat' (first | (refine brt (by assumption) ?_; (conv => arg 1; whnf)) | (refine brf (by assumption) ?_; (conv => arg 1; whnf)) | fail))
    refine loopM [0, 1, 2, 35] (fun k : Nat => (k : Int) ≤ car ∧ ∀ j, j < k → q.getD j [] = p.getD j []) (fun k => [(36, i64 k)]) (fun _ => []) (fun k => car.toNat - k) 0 ⟨by omega, fun j hj => absurd hj (Nat.not_lt_zero j)⟩ rfl ?_ ?_ fun k hi => ?_
    · repeat' (first | exact True.intro | exact Fit.dead _ | exact Fit.v _ | exact .i fun _ _ => rfl | exact Fit.ip | exact .p rfl | exact .q rfl | exact .s rfl | exact .y rfl | exact Fit.z | exact ⟨_, rfl, .gone _⟩ | exact ⟨_, rfl, .lrec _⟩ | exact ⟨_, rfl, .held⟩ | exact ⟨_, rfl, .tab fun _ _ => rfl⟩ | refine Fit.al ?_ | refine Fit.fl ?_ ?_ | refine ⟨_, rfl, .lit ?_⟩ | refine And.intro ?_ ?_)
    · repeat' (first | exact True.intro | exact Fit.dead _ | exact Fit.v _ | exact .i fun _ _ => rfl | exact Fit.ip | exact .p rfl | exact .q rfl | exact .s rfl | exact .y rfl | exact Fit.z | exact ⟨_, rfl, .gone _⟩ | exact ⟨_, rfl, .lrec _⟩ | exact ⟨_, rfl, .held⟩ | exact ⟨_, rfl, .tab fun _ _ => rfl⟩ | refine Fit.al ?_ | refine Fit.fl ?_ ?_ | refine ⟨_, rfl, .lit ?_⟩ | refine And.intro ?_ ?_)
    · obtain ⟨hk, hall⟩ := hi
      (conv => arg 1; whnf)
      refine br (fun h5 => ?_) (fun h5 => ?_)
      · have hlt : (k : Int) < car := of_decide_eq_true h5
        have ek : (k : Int).toNat = k := by omega
        have e3 : (decide (0 ≤ (k : Int)) && decide ((k : Int) < (q.length : Int))) = true := by simp only [Bool.and_eq_true, decide_eq_true_eq]; omega
        have e4 : (decide (0 ≤ (k : Int)) && decide ((k : Int) < (p.length : Int))) = true := by simp only [Bool.and_eq_true, decide_eq_true_eq]; omega
        (conv => arg 1; whnf); (repeat' (first | (refine brt (by assumption) ?_; (conv => arg 1; whnf)) | (refine brf (by assumption) ?_; (conv => arg 1; whnf)) | fail))
        (refine brt ?_ ?_; (focus (exact and2 rfl (and2 (and2 (decide_eq_true (by rw [rows_len]; have := hgq k (by omega); rw [ek]; omega)) (isRow_row eI (by have := hgp k (by omega); rw [ek]; omega))) (isRow_row eI (by have := hgq k (by omega); rw [ek]; omega))); done)); (conv => arg 1; whnf))
        refine br (fun h6 => ?_) (fun h6 => ?_)
        · have h6' : (!(decide (RR (q.getD (k : Int).toNat []) = RR (p.getD (k : Int).toNat [])))) = true := h6
          rw [RR_eq, RR_eq, ek] at h6'
          (conv => arg 1; whnf); (repeat' (first | (refine brt (by assumption) ?_; (conv => arg 1; whnf)) | (refine brf (by assumption) ?_; (conv => arg 1; whnf)) | fail))
          refine leaveRet ?_
          show tr _
          (conv => arg 1; whnf); (repeat' (first | (refine brt (by assumption) ?_; (conv => arg 1; whnf)) | (refine brf (by assumption) ?_; (conv => arg 1; whnf)) | fail))
          refine finB ?_
          unfold beginsB
          have : ((List.range car.toNat).all (fun c => decide (q.getD c [] = p.getD c []))) = false := by
            rw [Bool.eq_false_iff]
            intro h
            have := List.all_eq_true.1 h k (List.mem_range.2 (by omega))
            rw [this] at h6'; cases h6'
          rw [this]; simp
        · have h6' : (!(decide (RR (q.getD (k : Int).toNat []) = RR (p.getD (k : Int).toNat [])))) = false := h6
          rw [RR_eq, RR_eq, ek] at h6'
          (conv => arg 1; whnf); (repeat' (first | (refine brt (by assumption) ?_; (conv => arg 1; whnf)) | (refine brf (by assumption) ?_; (conv => arg 1; whnf)) | fail))
          refine again (k + 1) [] ⟨by omega, fun j hj => ?_⟩ (by show car.toNat - (k + 1) < car.toNat - k; omega) List.nodup_nil ?_ True.intro rfl
          · rcases Nat.lt_or_ge j k with hj' | hj'
            · exact hall j hj'
            · have : j = k := by omega
              rw [this]; simpa using h6'
          · repeat' (first | exact True.intro | exact Fit.dead _ | exact Fit.v _ | exact .i fun _ _ => rfl | exact Fit.v' (congrArg (Value.int .i64) (nxt' k (by omega)).symm) | refine And.intro ?_ ?_)
      · (conv => arg 1; whnf); (repeat' (first | (refine brt (by assumption) ?_; (conv => arg 1; whnf)) | (refine brf (by assumption) ?_; (conv => arg 1; whnf)) | fail))
        refine leave ?_
        show tr _
        have hkc : (k : Int) = car := by have := of_decide_eq_false h5; omega
        have e5 : (decide ((0 : Int) ≤ 0) && (decide ((0 : Int) ≤ ((p.getD car.toNat []).length : Int)) && (decide (((p.getD car.toNat []).length : Int) ≤ ((q.getD car.toNat []).length : Int)) && decide (((q.getD car.toNat []).length : Int) ≤ ((q.getD car.toNat []).length : Int))))) = true := by simp only [Bool.and_eq_true, decide_eq_true_eq]; omega
        have l1 := hgp car.toNat (by omega)
        have l2 := hgq car.toNat (by omega)
        have hR := RowIs.part eI (RowIs.row eI (q.getD car.toNat [])) (o := Int.toNat 0) (m := ((((p.getD car.toNat []).length : Int)).toNat - Int.toNat 0)) (by omega)
        have hRl : ((q.getD car.toNat []).drop (Int.toNat 0)).take ((((p.getD car.toNat []).length : Int)).toNat - Int.toNat 0) = (q.getD car.toNat []).take (p.getD car.toNat []).length := by simp
        (conv => arg 1; whnf); (repeat' (first | (refine brt (by assumption) ?_; (conv => arg 1; whnf)) | (refine brf (by assumption) ?_; (conv => arg 1; whnf)) | fail))
        (refine brt ?_ ?_; (focus (exact and2 rfl (and2 (and2 (decide_eq_true (by rw [rows_len]; omega)) (isRow_row eI (by omega))) (rowT hR (by rw [hRl, List.length_take]; omega))); done)); (conv => arg 1; whnf))
        refine finB ?_
        show beginsB q car p = decide (rows eI ((((p.getD car.toNat []).length : Int)).toNat - Int.toNat 0) (fun k => eI.enc ((q.getD car.toNat []).getD (Int.toNat 0 + k) eI.dflt)) = RR (p.getD car.toNat []))
        rw [hR.rows eI, RR_eq, hRl]
        unfold beginsB
        have a1 : (decide (0 ≤ car) && (decide (car < (q.length : Int)) && (decide (car < (p.length : Int)) && decide ((p.getD car.toNat []).length ≤ (q.getD car.toNat []).length)))) = true := by simp only [Bool.and_eq_true, decide_eq_true_eq]; omega
        have a2 : ((List.range car.toNat).all (fun c => decide (q.getD c [] = p.getD c []))) = true := List.all_eq_true.2 fun c hc => decide_eq_true (hall c (by have := List.mem_range.1 hc; omega))
        rw [a1, a2]; simp
theorem bad_false {a b : Nat} {kc : Bool} (h : false = cond (kc && !decide ((a : Int) = (b : Int))) true (decide ((a : Int) < (b : Int)))) : b ≤ a ∧ (kc = true → a = b) := by
  cases kc with
  | false =>
    simp at h
    exact ⟨by omega, fun e => by cases e⟩
  | true =>
    by_cases e : a = b
    · exact ⟨by omega, fun _ => e⟩
    · have : decide ((a : Int) = (b : Int)) = false := decide_eq_false (by omega)
      rw [this] at h; cases h
theorem bad_true {a b : Nat} {kc : Bool} (h : true = cond (kc && !decide ((a : Int) = (b : Int))) true (decide ((a : Int) < (b : Int)))) : a < b ∨ (kc = true ∧ a ≠ b) := by
  cases kc with
  | false => simp at h; exact .inl (by omega)
  | true =>
    by_cases e : a = b
    · subst e; simp at h
    · exact .inr ⟨rfl, e⟩
theorem take_getD {l : List Int} {n i : Nat} (h : i < n) : (l.take n).getD i 0 = l.getD i 0 := by
  rw [List.getD_eq_getElem?_getD, List.getD_eq_getElem?_getD, List.getElem?_take, if_pos h]
theorem take_ext {a b : List Int} (h : b.length ≤ a.length) (hg : ∀ j, j < b.length → a.getD j 0 = b.getD j 0) : a.take b.length = b := getD_extI (by rw [List.length_take]; omega) fun j hj => by
  rw [List.length_take] at hj
  rw [take_getD (by omega)]; exact hg j (by omega)
theorem XN0j6_ok : CxOk Try.prog (XN0.join 200006) := XN0_ok.join 200006 rfl
theorem rbegins_ok : CtrOk Try.prog 30 (freshCtr beginsG) :=
  freshCtr_ok XN0j6_ok Try.func30 (by decide) rfl fun args u σn h => by
    obtain ⟨q, car, p, hf, ⟨hq3, hq4⟩, hcar, ⟨hp3, hp4⟩, hv⟩ := ad3_some h
    simp only [Option.some.injEq, Prod.mk.injEq, Bool.and_eq_true] at hv
    obtain ⟨⟨hlq, hlp⟩, rfl, rfl⟩ := hv
    refine ⟨plainNil, _, hf, ?_⟩
    clear h hf
    have hlq : ∀ l ∈ q, l.length ≤ 1000 := fun l hl => of_decide_eq_true (List.all_eq_true.1 hlq l hl)
    have hlp : ∀ l ∈ p, l.length ≤ 1000 := fun l hl => of_decide_eq_true (List.all_eq_true.1 hlp l hl)
    have hgq : ∀ k, k < q.length → (q.getD k []).length ≤ 1000 := fun k hk => by rw [List.getD_eq_getElem?_getD, List.getElem?_eq_getElem hk]; exact hlq _ (List.getElem_mem hk)
    have hgp : ∀ k, k < p.length → (p.getD k []).length ≤ 1000 := fun k hk => by rw [List.getD_eq_getElem?_getD, List.getElem?_eq_getElem hk]; exact hlp _ (List.getElem_mem hk)
    unfold runF
    (conv => arg 1; whnf)
    have hno : (¬ (0 ≤ car ∧ car < (q.length : Int) ∧ car < (p.length : Int))) → beginsB q car p = false := fun hn => by
      unfold beginsB
      have : (decide (0 ≤ car) && (decide (car < (q.length : Int)) && (decide (car < (p.length : Int)) && decide ((p.getD car.toNat []).length ≤ (q.getD car.toNat []).length)))) = false := by
        rw [Bool.eq_false_iff]
        intro h
        simp only [Bool.and_eq_true, decide_eq_true_eq] at h
        exact hn ⟨h.1, h.2.1, h.2.2.1⟩
      rw [this]; rfl
    cases h1 : decide (car < 0) with
    | true =>
      have := of_decide_eq_true h1
      (conv => arg 1; whnf); (repeat' (first | (refine brt (by assumption) ?_; (conv => arg 1; whnf)) | (refine brf (by assumption) ?_; (conv => arg 1; whnf)) | fail))
      exact finB (hno (by omega))
    | false =>
    have h1' := of_decide_eq_false h1
    cases h2 : decide ((q.length : Int) ≤ car) with
    | true =>
      have := of_decide_eq_true h2
      (conv => arg 1; whnf); (repeat' (first | (refine brt (by assumption) ?_; (conv => arg 1; whnf)) | (refine brf (by assumption) ?_; (conv => arg 1; whnf)) | fail))
      exact finB (hno (by omega))
    | false =>
    have h2' := of_decide_eq_false h2
    cases h3 : decide ((p.length : Int) ≤ car) with
    | true =>
      have := of_decide_eq_true h3
      (conv => arg 1; whnf); (repeat' (first | (refine brt (by assumption) ?_; (conv => arg 1; whnf)) | (refine brf (by assumption) ?_; (conv => arg 1; whnf)) | fail))
      exact finB (hno (by omega))
    | false =>
    have h3' := of_decide_eq_false h3
    (conv => arg 1; whnf); (repeat' (first | (refine brt (by assumption) ?_; (conv => arg 1; whnf)) | (refine brf (by assumption) ?_; (conv => arg 1; whnf)) | fail))
    refine loopM [0, 1, 2] (fun k : Nat => (k : Int) ≤ car + 1 ∧ (∀ j : Nat, (j : Int) < car → j < k → q.getD j [] = p.getD j []) ∧ (car < (k : Int) → (q.getD car.toNat []).take (p.getD car.toNat []).length = p.getD car.toNat [] ∧ (p.getD car.toNat []).length ≤ (q.getD car.toNat []).length)) (fun k => [(7, i64 k)]) (fun _ => []) (fun k => car.toNat + 1 - k) 0 ⟨by omega, fun j _ hj => absurd hj (Nat.not_lt_zero j), fun h => by omega⟩ rfl ?_ ?_ fun k hi => ?_
    · repeat' (first | exact True.intro | exact Fit.dead _ | exact Fit.v _ | exact .i fun _ _ => rfl | exact Fit.ip | exact .p rfl | exact .q rfl | exact .s rfl | exact .y rfl | exact Fit.z | exact ⟨_, rfl, .gone _⟩ | exact ⟨_, rfl, .lrec _⟩ | exact ⟨_, rfl, .held⟩ | exact ⟨_, rfl, .tab fun _ _ => rfl⟩ | refine Fit.al ?_ | refine Fit.fl ?_ ?_ | refine ⟨_, rfl, .lit ?_⟩ | refine And.intro ?_ ?_)
    · repeat' (first | exact True.intro | exact Fit.dead _ | exact Fit.v _ | exact .i fun _ _ => rfl | exact Fit.ip | exact .p rfl | exact .q rfl | exact .s rfl | exact .y rfl | exact Fit.z | exact ⟨_, rfl, .gone _⟩ | exact ⟨_, rfl, .lrec _⟩ | exact ⟨_, rfl, .held⟩ | exact ⟨_, rfl, .tab fun _ _ => rfl⟩ | refine Fit.al ?_ | refine Fit.fl ?_ ?_ | refine ⟨_, rfl, .lit ?_⟩ | refine And.intro ?_ ?_)
    · obtain ⟨hk, hall, hlast⟩ := hi
      (conv => arg 1; whnf)
      refine br (fun h5 => ?_) (fun h5 => ?_)
      · have hle : (k : Int) ≤ car := of_decide_eq_true h5
        have ek : (k : Int).toNat = k := by omega
        have e3 : (decide (0 ≤ (k : Int)) && decide ((k : Int) < (q.length : Int))) = true := by simp only [Bool.and_eq_true, decide_eq_true_eq]; omega
        have e4 : (decide (0 ≤ (k : Int)) && decide ((k : Int) < (p.length : Int))) = true := by simp only [Bool.and_eq_true, decide_eq_true_eq]; omega
        obtain ⟨bad, hbad⟩ : ∃ b : Bool, b = cond (decide ((k : Int) < car) && !decide (((q.getD k []).length : Int) = ((p.getD k []).length : Int))) true (decide (((q.getD k []).length : Int) < ((p.getD k []).length : Int))) := ⟨_, rfl⟩
        (conv => arg 1; whnf); (repeat' (first | (refine brt (by assumption) ?_; (conv => arg 1; whnf)) | (refine brf (by assumption) ?_; (conv => arg 1; whnf)) | fail))
        refine joinIn (fun _ : Unit => True) (fun _ => frm 81 [(0, rrow eI q), (1, i64 car), (2, rrow eI p), (7, i64 k), (56, boo bad)]) (fun _ => []) ?_ (fun _ _ => ?_)
        · cases h6 : decide ((k : Int) < car) with
          | true =>
            cases h7 : (!decide (((q.getD (k : Int).toNat []).length : Int) = ((p.getD (k : Int).toNat []).length : Int))) with
            | true =>
              (conv => arg 1; whnf); (repeat' (first | (refine brt (by assumption) ?_; (conv => arg 1; whnf)) | (refine brf (by assumption) ?_; (conv => arg 1; whnf)) | fail))
              refine joinTo () [] trivial List.nodup_nil ?_ trivial rfl
              rw [hbad, h6]
              rw [ek] at h7
              rw [h7]
              repeat' (first | exact True.intro | exact Fit.dead _ | exact Fit.v _ | exact .i fun _ _ => rfl | exact Fit.ip | exact .p rfl | exact .q rfl | exact .s rfl | exact .y rfl | refine Fit.al ?_ | refine Fit.fl ?_ ?_ | refine And.intro ?_ ?_)
            | false =>
              (conv => arg 1; whnf); (repeat' (first | (refine brt (by assumption) ?_; (conv => arg 1; whnf)) | (refine brf (by assumption) ?_; (conv => arg 1; whnf)) | fail))
              refine joinTo () [] trivial List.nodup_nil ?_ trivial rfl
              rw [hbad, h6]
              rw [ek] at h7
              rw [h7]
              repeat' (first | exact True.intro | exact Fit.dead _ | exact Fit.v _ | exact .i fun _ _ => rfl | exact Fit.v' (by rw [ek]; rfl) | refine And.intro ?_ ?_)
          | false =>
            (conv => arg 1; whnf); (repeat' (first | (refine brt (by assumption) ?_; (conv => arg 1; whnf)) | (refine brf (by assumption) ?_; (conv => arg 1; whnf)) | fail))
            refine joinTo () [] trivial List.nodup_nil ?_ trivial rfl
            rw [hbad, h6]
            repeat' (first | exact True.intro | exact Fit.dead _ | exact Fit.v _ | exact .i fun _ _ => rfl | exact Fit.v' (by rw [ek]; rfl) | refine And.intro ?_ ?_)
        · cases bad with
          | true =>
            (conv => arg 1; whnf); (repeat' (first | (refine brt (by assumption) ?_; (conv => arg 1; whnf)) | (refine brf (by assumption) ?_; (conv => arg 1; whnf)) | fail))
            refine leaveRet ?_
            show tr _
            (conv => arg 1; whnf); (repeat' (first | (refine brt (by assumption) ?_; (conv => arg 1; whnf)) | (refine brf (by assumption) ?_; (conv => arg 1; whnf)) | fail))
            refine finB ?_
            rw [Bool.eq_false_iff]
            intro hb
            unfold beginsB at hb
            simp only [Bool.and_eq_true, decide_eq_true_eq, List.all_eq_true, List.mem_range] at hb
            obtain ⟨⟨_, _, _, b4⟩, b5, b6⟩ := hb
            rcases bad_true hbad with hb | ⟨hkc, hb⟩
            · by_cases hkc : (k : Int) < car
              · rw [b5 k (by omega)] at hb; omega
              · have : car.toNat = k := by omega
                rw [this] at b4; omega
            · have hkc := of_decide_eq_true hkc
              rw [b5 k (by omega)] at hb
              exact hb rfl
          | false =>
            obtain ⟨hb1, hb2⟩ := bad_false hbad
            have hb2 : (k : Int) < car → (q.getD k []).length = (p.getD k []).length := fun h => hb2 (decide_eq_true h)
            have l1 := hgq k (by omega)
            have l2 := hgp k (by omega)
            (conv => arg 1; whnf); (repeat' (first | (refine brt (by assumption) ?_; (conv => arg 1; whnf)) | (refine brf (by assumption) ?_; (conv => arg 1; whnf)) | fail))
            refine loopM [0, 1, 2, 7] (fun i : Nat => i ≤ (p.getD k []).length ∧ ∀ j, j < i → (q.getD k []).getD j 0 = (p.getD k []).getD j 0) (fun i => [(8, i64 i)]) (fun _ => []) (fun i => (p.getD k []).length - i) 0 ⟨Nat.zero_le _, fun j hj => absurd hj (Nat.not_lt_zero j)⟩ rfl ?_ ?_ fun i hi => ?_
            · repeat' (first | exact True.intro | exact Fit.dead _ | exact Fit.v _ | exact .i fun _ _ => rfl | exact Fit.ip | exact .p rfl | exact .q rfl | exact .s rfl | exact .y rfl | exact Fit.z | exact ⟨_, rfl, .gone _⟩ | exact ⟨_, rfl, .lrec _⟩ | exact ⟨_, rfl, .held⟩ | exact ⟨_, rfl, .tab fun _ _ => rfl⟩ | refine Fit.al ?_ | refine Fit.fl ?_ ?_ | refine ⟨_, rfl, .lit ?_⟩ | refine And.intro ?_ ?_)
            · repeat' (first | exact True.intro | exact Fit.dead _ | exact Fit.v _ | exact .i fun _ _ => rfl | exact Fit.ip | exact .p rfl | exact .q rfl | exact .s rfl | exact .y rfl | exact Fit.z | exact ⟨_, rfl, .gone _⟩ | exact ⟨_, rfl, .lrec _⟩ | exact ⟨_, rfl, .held⟩ | exact ⟨_, rfl, .tab fun _ _ => rfl⟩ | refine Fit.al ?_ | refine Fit.fl ?_ ?_ | refine ⟨_, rfl, .lit ?_⟩ | refine And.intro ?_ ?_)
            · obtain ⟨hi1, hia⟩ := hi
              (conv => arg 1; whnf); (repeat' (first | (refine brt (by assumption) ?_; (conv => arg 1; whnf)) | (refine brf (by assumption) ?_; (conv => arg 1; whnf)) | fail))
              refine br (fun h7 => ?_) (fun h7 => ?_)
              · have hil : i < (p.getD k []).length := by have h7' := of_decide_eq_true h7; rw [ek] at h7'; omega
                have ei : (i : Int).toNat = i := by omega
                have e5 : (decide (0 ≤ (i : Int)) && decide ((i : Int) < ((q.getD (k : Int).toNat []).length : Int))) = true := by rw [ek]; simp only [Bool.and_eq_true, decide_eq_true_eq]; omega
                have e6 : (decide (0 ≤ (i : Int)) && decide ((i : Int) < ((p.getD (k : Int).toNat []).length : Int))) = true := by rw [ek]; simp only [Bool.and_eq_true, decide_eq_true_eq]; omega
                (conv => arg 1; whnf); (repeat' (first | (refine brt (by assumption) ?_; (conv => arg 1; whnf)) | (refine brf (by assumption) ?_; (conv => arg 1; whnf)) | fail))
                refine br (fun h8 => ?_) (fun h8 => ?_)
                · have h8' : (!decide ((q.getD (k : Int).toNat []).getD (i : Int).toNat 0 = (p.getD (k : Int).toNat []).getD (i : Int).toNat 0)) = true := h8
                  rw [ek, ei] at h8'
                  have h8' : ¬ (q.getD k []).getD i 0 = (p.getD k []).getD i 0 := by intro e; rw [e] at h8'; simp at h8'
                  (conv => arg 1; whnf); (repeat' (first | (refine brt (by assumption) ?_; (conv => arg 1; whnf)) | (refine brf (by assumption) ?_; (conv => arg 1; whnf)) | fail))
                  refine leaveRet ?_
                  show tr _
                  (conv => arg 1; whnf); (repeat' (first | (refine brt (by assumption) ?_; (conv => arg 1; whnf)) | (refine brf (by assumption) ?_; (conv => arg 1; whnf)) | fail))
                  refine leaveRet ?_
                  show tr _
                  (conv => arg 1; whnf); (repeat' (first | (refine brt (by assumption) ?_; (conv => arg 1; whnf)) | (refine brf (by assumption) ?_; (conv => arg 1; whnf)) | fail))
                  refine finB ?_
                  rw [Bool.eq_false_iff]
                  intro hb
                  unfold beginsB at hb
                  simp only [Bool.and_eq_true, decide_eq_true_eq, List.all_eq_true, List.mem_range] at hb
                  obtain ⟨⟨_, _, _, b4⟩, b5, b6⟩ := hb
                  by_cases hkc : (k : Int) < car
                  · exact h8' (by rw [b5 k (by omega)])
                  · have : car.toNat = k := by omega
                    rw [this] at b6
                    refine h8' ?_
                    rw [← take_getD (l := q.getD k []) hil, b6]
                · have h8' : (!decide ((q.getD (k : Int).toNat []).getD (i : Int).toNat 0 = (p.getD (k : Int).toNat []).getD (i : Int).toNat 0)) = false := h8
                  rw [ek, ei] at h8'
                  (conv => arg 1; whnf); (repeat' (first | (refine brt (by assumption) ?_; (conv => arg 1; whnf)) | (refine brf (by assumption) ?_; (conv => arg 1; whnf)) | fail))
                  refine again (i + 1) [] ⟨by omega, fun j hj => ?_⟩ (by show (p.getD k []).length - (i + 1) < (p.getD k []).length - i; omega) List.nodup_nil ?_ True.intro rfl
                  · rcases Nat.lt_or_ge j i with hj' | hj'
                    · exact hia j hj'
                    · have : j = i := by omega
                      rw [this]; simpa using h8'
                  · repeat' (first | exact True.intro | exact Fit.dead _ | exact Fit.v _ | exact .i fun _ _ => rfl | exact Fit.v' (congrArg (Value.int .i64) (nxt i (by omega)).symm) | refine And.intro ?_ ?_)
              · have hil : i = (p.getD k []).length := by have h7' := of_decide_eq_false h7; rw [ek] at h7'; omega
                have htk : (q.getD k []).take (p.getD k []).length = p.getD k [] := take_ext hb1 fun j hj => hia j (by omega)
                (conv => arg 1; whnf); (repeat' (first | (refine brt (by assumption) ?_; (conv => arg 1; whnf)) | (refine brf (by assumption) ?_; (conv => arg 1; whnf)) | fail))
                refine leave ?_
                show tr _
                (conv => arg 1; whnf); (repeat' (first | (refine brt (by assumption) ?_; (conv => arg 1; whnf)) | (refine brf (by assumption) ?_; (conv => arg 1; whnf)) | fail))
                refine again (k + 1) [] ⟨by omega, fun j hj hjk => ?_, fun hck => ?_⟩ (by show car.toNat + 1 - (k + 1) < car.toNat + 1 - k; omega) List.nodup_nil ?_ True.intro rfl
                · rcases Nat.lt_or_ge j k with hj' | hj'
                  · exact hall j hj hj'
                  · obtain rfl : j = k := by omega
                    rw [← hb2 hj, List.take_length] at htk
                    exact htk
                · have : car.toNat = k := by omega
                  rw [this]
                  exact ⟨htk, hb1⟩
                · repeat' (first | exact True.intro | exact Fit.dead _ | exact Fit.v _ | exact .i fun _ _ => rfl | exact Fit.v' (congrArg (Value.int .i64) (nxt' k (by omega)).symm) | refine And.intro ?_ ?_)
      · (conv => arg 1; whnf); (repeat' (first | (refine brt (by assumption) ?_; (conv => arg 1; whnf)) | (refine brf (by assumption) ?_; (conv => arg 1; whnf)) | fail))
        refine leave ?_
        show tr _
        (conv => arg 1; whnf); (repeat' (first | (refine brt (by assumption) ?_; (conv => arg 1; whnf)) | (refine brf (by assumption) ?_; (conv => arg 1; whnf)) | fail))
        refine finB ?_
        have hkc : car < (k : Int) := by have := of_decide_eq_false h5; omega
        obtain ⟨t1, t2⟩ := hlast hkc
        unfold beginsB
        have a1 : (decide (0 ≤ car) && (decide (car < (q.length : Int)) && (decide (car < (p.length : Int)) && decide ((p.getD car.toNat []).length ≤ (q.getD car.toNat []).length)))) = true := by simp only [Bool.and_eq_true, decide_eq_true_eq]; omega
        have a2 : ((List.range car.toNat).all (fun c => decide (q.getD c [] = p.getD c []))) = true := List.all_eq_true.2 fun c hc => decide_eq_true (hall c (by have := List.mem_range.1 hc; omega) (by have := List.mem_range.1 hc; omega))
        rw [a1, a2, t1]; simp
end Go.Proofs.Ytglpeibbkkikgaa.E
