/- The law FloorsTold: any set of floors, with a floor, without it, and all else that is asked of it, is told exactly. -/
import Derived.Test.YtaneamfnjhiigaaDoorFloorsGoE
namespace Go.Proofs.YtaneamfnjhiigaaDoor.E
open Go
set_option linter.unusedSimpArgs false
set_option linter.unusedVariables false
set_option maxRecDepth 100000
set_option maxHeartbeats 4000000
noncomputable def XTo0 : Cx := (((((((XF0.add 6 .pure (pureCtr (fn0 (giv true (boo true))))).add 13 (.reads readsL) (borCtr ofG)).add 15 .pure (pureCtr toG)).add 14 .pure (pureCtr numG)).add 17 .pure (pureCtr hasG)).add 18 .pure (pureCtr withG)).add 19 .pure (pureCtr woutG)).add 16 .pure (pureCtr ocG)
theorem XTo0_ok : CxOk Tryd.prog XTo0 := (((((((XF0_ok.pure speaks_ok).bor of_ok).pure to_ok).pure rnum_ok).pure has_ok).pure with_ok).pure wout_ok).pure flen_ok
noncomputable def XTo : Cx := XTo0.join 90
theorem XTo_ok : CxOk Tryd.prog XTo := XTo0_ok.join 90 rfl
/-- Which floors stand in a list. -/
def inL (l : List Int) (i : Nat) : Bool := l.any fun z => decide (z = (i : Int))
theorem setOf_ok (l : List Int) : okU (setOf l) := by
  unfold setOf
  have key : ∀ (l : List Int) (s : Int), okU s → okU (l.foldl (fun s f => withF s f) s) := by
    intro l
    induction l with
    | nil => intro s h; exact h
    | cons z l ih => intro s h; exact ih _ (okU_with _ _)
  exact key l 0 ⟨by decide, by decide⟩
theorem bt_with' (b : Int) (f : Int) {i : Nat} (hi : i < 64) : bt (withF b f) i = (bt b i || decide (f = (i : Int))) := by
  by_cases hf : 0 ≤ f ∧ f < 64
  · exact bt_with b hf.1 hf.2 hi
  · rw [decide_eq_false (by omega : ¬ f = (i : Int)), Bool.or_false]
    have e : bitS f = 0 := by
      unfold bitS
      rcases Int.lt_or_le f 0 with h | h
      · rw [decide_eq_true h]; rfl
      · rw [decide_eq_true (by omega : 64 ≤ f), decide_eq_false (by omega : ¬ f < 0)]; rfl
    have hd : withF b f = IntKind.u64.wrap ((BitVec.ofInt 64 b ||| BitVec.ofInt 64 (bitS f)).toNat : Int) := rfl
    unfold bt
    rw [hd, ofU, e]
    simp
theorem bt_wout' (b : Int) (f : Int) {i : Nat} (hi : i < 64) : bt (woutF b f) i = (bt b i && !(decide (f = (i : Int)))) := by
  by_cases hf : 0 ≤ f ∧ f < 64
  · exact bt_wout b hf.1 hf.2 hi
  · rw [decide_eq_false (by omega : ¬ f = (i : Int))]
    have e : bitS f = 0 := by
      unfold bitS
      rcases Int.lt_or_le f 0 with h | h
      · rw [decide_eq_true h]; rfl
      · rw [decide_eq_true (by omega : 64 ≤ f), decide_eq_false (by omega : ¬ f < 0)]; rfl
    have hd : woutF b f = IntKind.u64.wrap ((BitVec.ofInt 64 b &&& ~~~ BitVec.ofInt 64 (bitS f)).toNat : Int) := rfl
    unfold bt
    rw [hd, ofU, e, BitVec.getLsbD_and, BitVec.getLsbD_not, decide_eq_true hi]
    simp
theorem setOf_bt (l : List Int) {i : Nat} (hi : i < 64) : bt (setOf l) i = inL l i := by
  have key : ∀ (l : List Int) (s : Int), bt (l.foldl (fun s f => withF s f) s) i = (bt s i || inL l i) := by
    intro l
    induction l with
    | nil => intro s; simp [inL]
    | cons z l ih => intro s; rw [List.foldl_cons, ih, bt_with' _ _ hi]; simp [inL, Bool.or_assoc]
  unfold setOf
  rw [key, bt_zero, Bool.false_or]
theorem inL_snoc (l : List Int) (z : Int) (i : Nat) : inL (l ++ [z]) i = (inL l i || decide (z = (i : Int))) := by simp [inL]
/-- A number that is told by its truths. -/
theorem numV (W : Nat → Bool) {s : Int} (hs : okU s) (h : ∀ i, i < 64 → bt s i = W i) : s = numF ((List.range 64).map W) := by
  unfold numF
  rw [sealed_eq]
  exact num_eq hs fun j hj => by rw [h j hj, List.getD_eq_getElem?_getD]; simp [hj]
theorem FloorsTold (us : List AV) (h : areArgs tt [24, 3, 3] us) : runF XTo Tryd.f4 us [] (boo true) [] := by
  obtain ⟨_, _, rfl, h1, _, _, rfl, h2, _, _, rfl, h3, rfl⟩ := h
  obtain ⟨l, rfl, hl, _⟩ := ints_row h1
  obtain ⟨n, rfl, hn0, hn1⟩ := int_arg h2
  obtain ⟨fl, rfl, hf0, hf1⟩ := int_arg h3
  clear h1 h2 h3
  unfold runF
  (conv => arg 1; whnf); (repeat' (first | (refine brt (by assumption) ?_; (conv => arg 1; whnf)) | (refine brf (by assumption) ?_; (conv => arg 1; whnf)) | fail))
  refine br (fun g1 => ?_) (fun g1 => ?_)
  · (conv => arg 1; whnf); (repeat' (first | (refine brt (by assumption) ?_; (conv => arg 1; whnf)) | (refine brf (by assumption) ?_; (conv => arg 1; whnf)) | fail))
    exact finB rfl
  have g1 := of_decide_eq_false g1
  have hl100 : l.length ≤ 100 := by omega
  (conv => arg 1; whnf); (repeat' (first | (refine brt (by assumption) ?_; (conv => arg 1; whnf)) | (refine brf (by assumption) ?_; (conv => arg 1; whnf)) | fail))
  refine loopM [0, 1, 2, 7, 8, 24, 25, 26] (fun k : Nat => k ≤ l.length) (fun k => [(26, i64 k)]) (fun k => [(0, arrT (inL (l.take k))), (1, arrT fun _ => false)]) (fun k => l.length - k) 0 (Nat.zero_le _) rfl ?_ ?_ fun k hk => ?_
  · repeat' (first | exact True.intro | exact Fit.dead _ | exact Fit.v _ | exact .i fun _ _ => rfl | exact Fit.ip | exact .p rfl | exact .q rfl | exact .s rfl | exact .y rfl | exact Fit.z | exact ⟨_, rfl, .gone _⟩ | exact ⟨_, rfl, .lrec _⟩ | exact ⟨_, rfl, .held⟩ | exact ⟨_, rfl, .tab fun _ _ => rfl⟩ | refine Fit.al ?_ | refine Fit.fl ?_ ?_ | refine ⟨_, rfl, .lit ?_⟩ | refine And.intro ?_ ?_)
  · refine ⟨⟨_, rfl, .tab fun i hi => ?_⟩, ⟨_, rfl, .tab fun i hi => ?_⟩, trivial⟩
    · exact (cut_rep (boo false) hi).symm
    · exact (cut_rep (boo false) hi).symm
  have hk : k ≤ l.length := hk
  (conv => arg 1; whnf)
  refine br (fun h => ?_) (fun h => ?_)
  · have hlt : k < l.length := by have := of_decide_eq_true h; omega
    have e1 : (decide (0 ≤ (k : Int)) && decide ((k : Int) < (l.length : Int))) = true := by simp only [Bool.and_eq_true, decide_eq_true_eq]; omega
    have ek : (k : Int).toNat = k := by omega
    obtain ⟨z, hz⟩ : ∃ z, z = l.getD k 0 := ⟨_, rfl⟩
    have hz' : l.getD (k : Int).toNat eI.dflt = z := by rw [ek, hz]; rfl
    (conv => arg 1; whnf); (repeat' (first | (refine brt (by assumption) ?_; (conv => arg 1; whnf)) | (refine brf (by assumption) ?_; (conv => arg 1; whnf)) | fail))
    have hsn : ∀ i : Nat, inL (l.take (k + 1)) i = (inL (l.take k) i || decide (z = (i : Int))) := fun i => by rw [take_snoc (d := 0) hlt, inL_snoc, hz]
    by_cases g : 0 ≤ z
    · have f1 : decide (0 ≤ z) = true := decide_eq_true g
      by_cases g2 : z < 64
      · have f2 : decide (z < 64) = true := decide_eq_true g2
        have e2 : (decide (0 ≤ z) && decide (z < ((64 : Nat) : Int))) = true := by simp only [Bool.and_eq_true, decide_eq_true_eq]; omega
        have e3 : decide (z.toNat < 64) = true := decide_eq_true (by omega)
        rw [← hz'] at f1 f2 e2 e3
        (conv => arg 1; whnf); (repeat' (first | (refine brt (by assumption) ?_; (conv => arg 1; whnf)) | (refine brf (by assumption) ?_; (conv => arg 1; whnf)) | fail))
        refine again (k + 1) [0, 1] hlt (by show l.length - (k + 1) < l.length - k; omega) (by decide) ?_ ?_ rfl
        · repeat' (first | exact True.intro | exact Fit.dead _ | exact Fit.v _ | exact .i fun _ _ => rfl | exact Fit.ip | exact .p rfl | exact .q rfl | exact .s rfl | exact .y rfl | exact Fit.z | exact ⟨_, rfl, .gone _⟩ | exact ⟨_, rfl, .lrec _⟩ | exact ⟨_, rfl, .held⟩ | exact ⟨_, rfl, .tab fun _ _ => rfl⟩ | refine Fit.al ?_ | refine Fit.fl ?_ ?_ | refine ⟨_, rfl, .lit ?_⟩ | refine And.intro ?_ ?_)
          exact Fit.v' (congrArg (Value.int .i64) (nxt k (by omega)).symm)
        · refine ⟨⟨_, rfl, .tab fun i hi => ?_⟩, ⟨_, rfl, .tab fun _ _ => rfl⟩, trivial⟩
          show [boo (inL (l.take (k + 1)) i)] = if i = (l.getD (k : Int).toNat eI.dflt).toNat then [boo true] else [boo (inL (l.take k) i)]
          rw [hz', hsn]
          by_cases hi' : i = z.toNat
          · rw [if_pos hi', decide_eq_true (by omega), Bool.or_true]
          · rw [if_neg hi', decide_eq_false (by omega), Bool.or_false]
      · have f2 : decide (z < 64) = false := decide_eq_false g2
        rw [← hz'] at f1 f2
        (conv => arg 1; whnf); (repeat' (first | (refine brt (by assumption) ?_; (conv => arg 1; whnf)) | (refine brf (by assumption) ?_; (conv => arg 1; whnf)) | fail))
        refine again (k + 1) [0, 1] hlt (by show l.length - (k + 1) < l.length - k; omega) (by decide) ?_ ?_ rfl
        · repeat' (first | exact True.intro | exact Fit.dead _ | exact Fit.v _ | exact .i fun _ _ => rfl | exact Fit.ip | exact .p rfl | exact .q rfl | exact .s rfl | exact .y rfl | exact Fit.z | exact ⟨_, rfl, .gone _⟩ | exact ⟨_, rfl, .lrec _⟩ | exact ⟨_, rfl, .held⟩ | exact ⟨_, rfl, .tab fun _ _ => rfl⟩ | refine Fit.al ?_ | refine Fit.fl ?_ ?_ | refine ⟨_, rfl, .lit ?_⟩ | refine And.intro ?_ ?_)
          exact Fit.v' (congrArg (Value.int .i64) (nxt k (by omega)).symm)
        · refine ⟨⟨_, rfl, .tab fun i hi => ?_⟩, ⟨_, rfl, .tab fun _ _ => rfl⟩, trivial⟩
          show [boo (inL (l.take (k + 1)) i)] = [boo (inL (l.take k) i)]
          rw [hsn, decide_eq_false (by omega), Bool.or_false]
    · have f1 : decide (0 ≤ z) = false := decide_eq_false g
      rw [← hz'] at f1
      (conv => arg 1; whnf); (repeat' (first | (refine brt (by assumption) ?_; (conv => arg 1; whnf)) | (refine brf (by assumption) ?_; (conv => arg 1; whnf)) | fail))
      refine again (k + 1) [0, 1] hlt (by show l.length - (k + 1) < l.length - k; omega) (by decide) ?_ ?_ rfl
      · repeat' (first | exact True.intro | exact Fit.dead _ | exact Fit.v _ | exact .i fun _ _ => rfl | exact Fit.ip | exact .p rfl | exact .q rfl | exact .s rfl | exact .y rfl | exact Fit.z | exact ⟨_, rfl, .gone _⟩ | exact ⟨_, rfl, .lrec _⟩ | exact ⟨_, rfl, .held⟩ | exact ⟨_, rfl, .tab fun _ _ => rfl⟩ | refine Fit.al ?_ | refine Fit.fl ?_ ?_ | refine ⟨_, rfl, .lit ?_⟩ | refine And.intro ?_ ?_)
        exact Fit.v' (congrArg (Value.int .i64) (nxt k (by omega)).symm)
      · refine ⟨⟨_, rfl, .tab fun i hi => ?_⟩, ⟨_, rfl, .tab fun _ _ => rfl⟩, trivial⟩
        show [boo (inL (l.take (k + 1)) i)] = [boo (inL (l.take k) i)]
        rw [hsn, decide_eq_false (by omega), Bool.or_false]
  have hkl : k = l.length := by have := of_decide_eq_false h; omega
  subst hkl
  rw [List.take_length]
  (conv => arg 1; whnf); (repeat' (first | (refine brt (by assumption) ?_; (conv => arg 1; whnf)) | (refine brf (by assumption) ?_; (conv => arg 1; whnf)) | fail))
  refine leave ?_
  show tr _
  (conv => arg 1; whnf); (repeat' (first | (refine brt (by assumption) ?_; (conv => arg 1; whnf)) | (refine brf (by assumption) ?_; (conv => arg 1; whnf)) | fail))
  refine loopM [0, 1, 2, 7, 8, 11, 12] (fun k : Nat => k ≤ 64) (fun k => [(11, i64 ((List.range k).filter (inL l)).length), (12, i64 k)]) (fun k => [(1, arrT fun i => decide (i < k) && decide ((i : Int) < n))]) (fun k => 64 - k) 0 (Nat.zero_le _) rfl ?_ ?_ fun k hk => ?_
  · repeat' (first | exact True.intro | exact Fit.dead _ | exact Fit.v _ | exact .i fun _ _ => rfl | exact Fit.ip | exact .p rfl | exact .q rfl | exact .s rfl | exact .y rfl | exact Fit.z | exact ⟨_, rfl, .gone _⟩ | exact ⟨_, rfl, .lrec _⟩ | exact ⟨_, rfl, .held⟩ | exact ⟨_, rfl, .tab fun _ _ => rfl⟩ | refine Fit.al ?_ | refine Fit.fl ?_ ?_ | refine ⟨_, rfl, .lit ?_⟩ | refine And.intro ?_ ?_)
  · refine ⟨⟨_, rfl, .tab fun _ _ => rfl⟩, ⟨_, rfl, .tab fun i hi => ?_⟩, trivial⟩
    show [boo (decide (i < 0) && decide ((i : Int) < n))] = [boo false]
    rw [decide_eq_false (Nat.not_lt_zero i)]; rfl
  have hk : k ≤ 64 := hk
  (conv => arg 1; whnf)
  refine br (fun h => ?_) (fun h => ?_)
  · have hlt : k < 64 := by have := of_decide_eq_true h; omega
    have e1 : (decide (0 ≤ (k : Int)) && decide ((k : Int) < ((64 : Nat) : Int))) = true := by simp only [Bool.and_eq_true, decide_eq_true_eq]; omega
    have e2 : decide ((k : Int).toNat < 64) = true := decide_eq_true (by omega)
    have ek : (k : Int).toNat = k := by omega
    have hcl : ((List.range k).filter (inL l)).length ≤ k := Nat.le_trans (List.length_filter_le _ _) (by rw [List.length_range]; exact Nat.le_refl _)
    have hcs : ((List.range (k + 1)).filter (inL l)).length = ((List.range k).filter (inL l)).length + (inL l k).toNat := by
      rw [List.range_succ, List.filter_append, List.length_append]
      cases h9 : inL l k <;> simp [h9]
    have tabs : ∀ i, i < 64 → [boo (decide (i < k + 1) && decide ((i : Int) < n))] = if i = (k : Int).toNat then [boo (decide ((k : Int) < n))] else [boo (decide (i < k) && decide ((i : Int) < n))] := fun i hi => by
      rw [ek]
      by_cases hik : i = k
      · subst hik
        rw [if_pos rfl, decide_eq_true (by omega : i < i + 1)]; rfl
      · rw [if_neg hik, decide_eq_decide.2 (show i < k + 1 ↔ i < k by omega)]
    (conv => arg 1; whnf); (repeat' (first | (refine brt (by assumption) ?_; (conv => arg 1; whnf)) | (refine brf (by assumption) ?_; (conv => arg 1; whnf)) | fail))
    refine br (fun g => ?_) (fun g => ?_)
    · have g : inL l (k : Int).toNat = true := g
      rw [ek] at g
      rw [g] at hcs
      (conv => arg 1; whnf); (repeat' (first | (refine brt (by assumption) ?_; (conv => arg 1; whnf)) | (refine brf (by assumption) ?_; (conv => arg 1; whnf)) | fail))
      refine again (k + 1) [0, 1] hlt (by show 64 - (k + 1) < 64 - k; omega) (by decide) ?_ ?_ rfl
      · repeat' (first | exact True.intro | exact Fit.dead _ | exact .p rfl | exact Fit.v _ | exact .i fun _ _ => rfl | exact Fit.v' (congrArg (Value.int .i64) (nxt k (by omega)).symm) | exact Fit.v' (congrArg (Value.int .i64) (by rw [hcs]; exact (nxt _ (by omega)).symm)) | refine And.intro ?_ ?_)
      · exact ⟨⟨_, rfl, .tab fun _ _ => rfl⟩, ⟨_, rfl, .tab fun i hi => tabs i hi⟩, trivial⟩
    · have g : inL l (k : Int).toNat = false := g
      rw [ek] at g
      rw [g] at hcs
      (conv => arg 1; whnf); (repeat' (first | (refine brt (by assumption) ?_; (conv => arg 1; whnf)) | (refine brf (by assumption) ?_; (conv => arg 1; whnf)) | fail))
      refine again (k + 1) [0, 1] hlt (by show 64 - (k + 1) < 64 - k; omega) (by decide) ?_ ?_ rfl
      · repeat' (first | exact True.intro | exact Fit.dead _ | exact .p rfl | exact Fit.v _ | exact .i fun _ _ => rfl | exact Fit.v' (congrArg (Value.int .i64) (nxt k (by omega)).symm) | exact Fit.v' (congrArg (fun m : Nat => Value.int .i64 (m : Int)) hcs) | refine And.intro ?_ ?_)
      · exact ⟨⟨_, rfl, .tab fun _ _ => rfl⟩, ⟨_, rfl, .tab fun i hi => tabs i hi⟩, trivial⟩
  have hkl : k = 64 := by have := of_decide_eq_false h; omega
  subst hkl
  (conv => arg 1; whnf); (repeat' (first | (refine brt (by assumption) ?_; (conv => arg 1; whnf)) | (refine brf (by assumption) ?_; (conv => arg 1; whnf)) | fail))
  refine leave ?_
  show tr _
  (conv => arg 1; whnf); (repeat' (first | (refine brt (by assumption) ?_; (conv => arg 1; whnf)) | (refine brf (by assumption) ?_; (conv => arg 1; whnf)) | fail))
  obtain ⟨C, hC⟩ : ∃ C, C = ((List.range 64).filter (inL l)).length := ⟨_, rfl⟩
  rw [← hC]
  obtain ⟨s, hs⟩ : ∃ s, s = setOf l := ⟨_, rfl⟩
  have er : setOf (rows eI l.length fun k => eI.enc (l.getD k eI.dflt)) = s := by rw [rows_row, hs]
  have okS : okU s := by rw [hs]; exact setOf_ok l
  have btS : ∀ i, i < 64 → bt s i = inL l i := fun i hi => by rw [hs]; exact setOf_bt l hi
  have cs : (decide (0 ≤ s) && decide (s < 18446744073709551616)) = true := and2 (decide_eq_true okS.1) (decide_eq_true okS.2)
  (refine brt ?_ ?_; (focus (exact and2 rfl (and2 (decide_eq_true (by rw [rows_len]; omega)) (isRow_row eI hl)); done)); (conv => arg 1; whnf))
  rw [er]
  have b1 : (!(decide (s = numF ((List.range 64).map (inL l))))) = false := by rw [decide_eq_true (numV (inL l) okS btS)]; rfl
  have okT : okU (toF n) := okU_wrap _
  have b2' : toF n = numF ((List.range 64).map fun i : Nat => decide (i < 64) && decide ((i : Int) < n)) := numV (s := toF n) (fun i : Nat => decide (i < 64) && decide ((i : Int) < n)) okT fun i hi => by
    rw [bt_to n hi]
    show _ = (decide (i < 64) && decide ((i : Int) < n))
    rw [decide_eq_true hi]; rfl
  have b2 : (!(decide (toF n = numF ((List.range 64).map fun i : Nat => decide (i < 64) && decide ((i : Int) < n))))) = false := by rw [decide_eq_true b2']; rfl
  have b3 : (!(decide (lenF s = (C : Int)))) = false := by
    have e : lenF s = (C : Int) := by
      rw [hC]
      rw [lenF_eq, cntB_range]
      congr 2
      apply List.filter_congr
      intro i hi
      rw [← btS i (List.mem_range.1 hi)]
      exact (bt_toNat okS i).symm
    rw [decide_eq_true e]; rfl
  (conv => arg 1; whnf)
  iterate 6 (refine brf ?_ ?_; (focus (exact b1; done)); (conv => arg 1; whnf))
  iterate 2 (refine brf ?_ ?_; (focus (exact b2; done)); (conv => arg 1; whnf))
  (refine brt ?_ ?_; (focus (exact cs; done)); (conv => arg 1; whnf))
  iterate 3 (refine brf ?_ ?_; (focus (exact b2; done)); (conv => arg 1; whnf))
  (refine brf ?_ ?_; (focus (exact b3; done)); (conv => arg 1; whnf))
  obtain ⟨W1, hW1⟩ : ∃ W : Nat → Bool, W = fun i => inL l i || decide (fl = (i : Int)) := ⟨_, rfl⟩
  obtain ⟨W2, hW2⟩ : ∃ W : Nat → Bool, W = fun i => inL l i && !(decide (fl = (i : Int))) := ⟨_, rfl⟩
  have b5 : decide (withF s fl = numF ((List.range 64).map W1)) = true := decide_eq_true (numV (s := withF s fl) W1 (okU_with _ _) fun i hi => by rw [bt_with' _ _ hi, btS i hi, hW1])
  have b6 : decide (woutF s fl = numF ((List.range 64).map W2)) = true := decide_eq_true (numV (s := woutF s fl) W2 (okU_wout _ _) fun i hi => by rw [bt_wout' _ _ hi, btS i hi, hW2])
  have fin : ∀ (K : Prop), K → K := fun _ h => h
  by_cases g : 0 ≤ fl
  · have f1 : decide (0 ≤ fl) = true := decide_eq_true g
    by_cases g2 : fl < 64
    · have f2 : decide (fl < 64) = true := decide_eq_true g2
      have e2 : (decide (0 ≤ fl) && decide (fl < ((64 : Nat) : Int))) = true := by simp only [Bool.and_eq_true, decide_eq_true_eq]; omega
      have e3 : decide (fl.toNat < 64) = true := decide_eq_true (by omega)
      have b4 : (!(hasF s fl == inL l fl.toNat)) = false := by rw [show hasF s fl = inL l fl.toNat by rw [← btS _ (by omega : fl.toNat < 64), ← has_bt (by omega), show ((fl.toNat : Nat) : Int) = fl by omega]]; simp
      clear b1 b2 b3 b2'
      repeat (first | (refine brt ?_ ?_; (focus (exact f1; done)); (conv => arg 1; whnf)) | (refine brt ?_ ?_; (focus (exact f2; done)); (conv => arg 1; whnf)) | (refine brt ?_ ?_; (focus (exact e2; done)); (conv => arg 1; whnf)) | (refine brt ?_ ?_; (focus (exact e3; done)); (conv => arg 1; whnf)) | (refine brf ?_ ?_; (focus (exact b4; done)); (conv => arg 1; whnf)))
      refine joinIn (fun _ : Unit => True) (fun _ => frm 109 [(2, i64 fl), (13, u64 s), (15, .p 0 0), (16, .p 1 0)]) (fun _ => [arrT W1, arrT W2]) ?_ (fun _ _ => ?_)
      · (conv => arg 1; whnf)
        repeat (first | (refine brt ?_ ?_; (focus (exact f1; done)); (conv => arg 1; whnf)) | (refine brt ?_ ?_; (focus (exact f2; done)); (conv => arg 1; whnf)) | (refine brt ?_ ?_; (focus (exact e2; done)); (conv => arg 1; whnf)) | (refine brt ?_ ?_; (focus (exact e3; done)); (conv => arg 1; whnf)) | (refine brf ?_ ?_; (focus (exact b4; done)); (conv => arg 1; whnf)))
        refine joinTo () [2, 3] trivial (by decide) ?_ ?_ rfl
        · repeat' (first | exact True.intro | exact Fit.dead _ | exact Fit.v _ | exact .i fun _ _ => rfl | exact Fit.ip | exact .p rfl | exact .q rfl | exact .s rfl | exact .y rfl | exact Fit.z | exact ⟨_, rfl, .gone _⟩ | exact ⟨_, rfl, .lrec _⟩ | exact ⟨_, rfl, .held⟩ | exact ⟨_, rfl, .tab fun _ _ => rfl⟩ | refine Fit.al ?_ | refine Fit.fl ?_ ?_ | refine ⟨_, rfl, .lit ?_⟩ | refine And.intro ?_ ?_)
        · refine ⟨⟨_, rfl, .tab fun i hi => ?_⟩, ⟨_, rfl, .tab fun i hi => ?_⟩, trivial⟩
          · rw [hW1]
            show [boo (inL l i || decide (fl = (i : Int)))] = if i = fl.toNat then putCells (cut 1 (arrC (inL l)) i) 0 [boo true] else cut 1 (arrC (inL l)) i
            rw [cut_arr hi]
            by_cases hif : i = fl.toNat
            · rw [if_pos hif, decide_eq_true (by omega), Bool.or_true]; rfl
            · rw [if_neg hif, decide_eq_false (by omega), Bool.or_false]
          · rw [hW2]
            show [boo (inL l i && !(decide (fl = (i : Int))))] = if i = fl.toNat then putCells (cut 1 (arrC (inL l)) i) 0 [boo false] else cut 1 (arrC (inL l)) i
            rw [cut_arr hi]
            by_cases hif : i = fl.toNat
            · rw [if_pos hif, decide_eq_true (by omega), Bool.not_true, Bool.and_false]; rfl
            · rw [if_neg hif, decide_eq_false (by omega), Bool.not_false, Bool.and_true]
      · (conv => arg 1; whnf)
        repeat (refine brt ?_ ?_; (focus (exact b5; done)); (conv => arg 1; whnf))
        exact finB b6.symm
    · have f2 : decide (fl < 64) = false := decide_eq_false g2
      have b4 : (!(hasF s fl == false)) = false := by rw [has_out (by omega)]; rfl
      clear b1 b2 b3 b2'
      repeat (first | (refine brt ?_ ?_; (focus (exact f1; done)); (conv => arg 1; whnf)) | (refine brf ?_ ?_; (focus (exact f2; done)); (conv => arg 1; whnf)) | (refine brf ?_ ?_; (focus (exact b4; done)); (conv => arg 1; whnf)))
      refine joinIn (fun _ : Unit => True) (fun _ => frm 109 [(2, i64 fl), (13, u64 s), (15, .p 0 0), (16, .p 1 0)]) (fun _ => [arrT W1, arrT W2]) ?_ (fun _ _ => ?_)
      · (conv => arg 1; whnf)
        repeat (first | (refine brt ?_ ?_; (focus (exact f1; done)); (conv => arg 1; whnf)) | (refine brf ?_ ?_; (focus (exact f2; done)); (conv => arg 1; whnf)))
        refine joinTo () [2, 3] trivial (by decide) ?_ ?_ rfl
        · repeat' (first | exact True.intro | exact Fit.dead _ | exact Fit.v _ | exact .i fun _ _ => rfl | exact Fit.ip | exact .p rfl | exact .q rfl | exact .s rfl | exact .y rfl | exact Fit.z | exact ⟨_, rfl, .gone _⟩ | exact ⟨_, rfl, .lrec _⟩ | exact ⟨_, rfl, .held⟩ | exact ⟨_, rfl, .tab fun _ _ => rfl⟩ | refine Fit.al ?_ | refine Fit.fl ?_ ?_ | refine ⟨_, rfl, .lit ?_⟩ | refine And.intro ?_ ?_)
        · refine ⟨⟨_, rfl, .tab fun i hi => ?_⟩, ⟨_, rfl, .tab fun i hi => ?_⟩, trivial⟩
          · rw [hW1]
            show [boo (inL l i || decide (fl = (i : Int)))] = cut 1 (arrC (inL l)) i
            rw [cut_arr hi, decide_eq_false (by omega), Bool.or_false]
          · rw [hW2]
            show [boo (inL l i && !(decide (fl = (i : Int))))] = cut 1 (arrC (inL l)) i
            rw [cut_arr hi, decide_eq_false (by omega), Bool.not_false, Bool.and_true]
      · (conv => arg 1; whnf)
        repeat (refine brt ?_ ?_; (focus (exact b5; done)); (conv => arg 1; whnf))
        exact finB b6.symm
  · have f1 : decide (0 ≤ fl) = false := decide_eq_false g
    have b4 : (!(hasF s fl == false)) = false := by rw [has_out (by omega)]; rfl
    clear b1 b2 b3 b2'
    repeat (first | (refine brf ?_ ?_; (focus (exact f1; done)); (conv => arg 1; whnf)) | (refine brf ?_ ?_; (focus (exact b4; done)); (conv => arg 1; whnf)))
    refine joinIn (fun _ : Unit => True) (fun _ => frm 109 [(2, i64 fl), (13, u64 s), (15, .p 0 0), (16, .p 1 0)]) (fun _ => [arrT W1, arrT W2]) ?_ (fun _ _ => ?_)
    · (conv => arg 1; whnf)
      repeat (first | (refine brf ?_ ?_; (focus (exact f1; done)); (conv => arg 1; whnf)))
      refine joinTo () [2, 3] trivial (by decide) ?_ ?_ rfl
      · repeat' (first | exact True.intro | exact Fit.dead _ | exact Fit.v _ | exact .i fun _ _ => rfl | exact Fit.ip | exact .p rfl | exact .q rfl | exact .s rfl | exact .y rfl | exact Fit.z | exact ⟨_, rfl, .gone _⟩ | exact ⟨_, rfl, .lrec _⟩ | exact ⟨_, rfl, .held⟩ | exact ⟨_, rfl, .tab fun _ _ => rfl⟩ | refine Fit.al ?_ | refine Fit.fl ?_ ?_ | refine ⟨_, rfl, .lit ?_⟩ | refine And.intro ?_ ?_)
      · refine ⟨⟨_, rfl, .tab fun i hi => ?_⟩, ⟨_, rfl, .tab fun i hi => ?_⟩, trivial⟩
        · rw [hW1]
          show [boo (inL l i || decide (fl = (i : Int)))] = cut 1 (arrC (inL l)) i
          rw [cut_arr hi, decide_eq_false (by omega), Bool.or_false]
        · rw [hW2]
          show [boo (inL l i && !(decide (fl = (i : Int))))] = cut 1 (arrC (inL l)) i
          rw [cut_arr hi, decide_eq_false (by omega), Bool.not_false, Bool.and_true]
    · (conv => arg 1; whnf)
      repeat (refine brt ?_ ?_; (focus (exact b5; done)); (conv => arg 1; whnf))
      exact finB b6.symm
end Go.Proofs.YtaneamfnjhiigaaDoor.E
