/- The document's answers on sets of floors. -/
import Derived.Test.YtaneamfnjhiigaaDoorFloorsFE
namespace Go.Proofs.YtaneamfnjhiigaaDoor.E
open Go
set_option linter.unusedSimpArgs false
set_option linter.unusedVariables false
set_option maxRecDepth 100000
set_option maxHeartbeats 4000000
theorem getD_extI {a b : List Int} (h : a.length = b.length) (hg : ∀ j, j < a.length → a.getD j 0 = b.getD j 0) : a = b := by
  apply List.ext_getElem h
  intro i h1 h2
  have := hg i h1
  rw [List.getD_eq_getElem?_getD, List.getD_eq_getElem?_getD, List.getElem?_eq_getElem h1, List.getElem?_eq_getElem h2] at this
  exact this
def sameIG : List AV → Option (Bool × AV) := ad2 (adR eI) (adR eI) fun a b => giv (decide (a.length ≤ 1000000)) (boo (decide (a = b)))
theorem sameI_ok : CtrOk Tryd.prog 12 (borCtr sameIG) :=
  borCtr_can XF0_ok Tryd.func12 (by decide) rfl fun args u h => by
    obtain ⟨a, b, hf, ha, hb, hv⟩ := ad2_some h
    obtain ⟨hal, rfl⟩ := giv_some hv
    have hal := of_decide_eq_true hal
    refine ⟨_, hf, ?_⟩
    clear h hv hf
    unfold runF
    (conv => arg 1; whnf)
    refine br (fun h => ?_) (fun h => ?_)
    · (conv => arg 1; whnf)
      refine finB (decide_eq_false fun e => ?_)
      rw [e] at h
      simp at h
    · have hl : a.length = b.length := by
        have h' : (!decide ((a.length : Int) = (b.length : Int))) = false := h
        simp at h'
        omega
      (conv => arg 1; whnf)
      refine loopIn (fun k : Nat => k ≤ a.length ∧ ∀ j, j < k → a.getD j 0 = b.getD j 0) (fun k => frm 26 [(0, row eI a), (1, row eI b), (5, i64 k)]) (fun _ => []) (fun k => a.length - k) 0 [] ⟨Nat.zero_le _, fun j hj => absurd hj (Nat.not_lt_zero j)⟩ List.nodup_nil ?_ True.intro rfl fun k hi => ?_
      · repeat' (first | exact True.intro | exact Fit.dead _ | exact Fit.v _ | exact row_self eI _ | refine And.intro ?_ ?_)
      · obtain ⟨hk, hall⟩ := hi
        (conv => arg 1; whnf)
        refine br (fun h1 => ?_) (fun h1 => ?_)
        · have hlt : k < a.length := by have := of_decide_eq_true h1; omega
          have e1 : (decide (0 ≤ (k : Int)) && decide ((k : Int) < (a.length : Int))) = true := by simp only [Bool.and_eq_true, decide_eq_true_eq]; omega
          have e2 : (decide (0 ≤ (k : Int)) && decide ((k : Int) < (b.length : Int))) = true := by simp only [Bool.and_eq_true, decide_eq_true_eq]; omega
          have ek : (k : Int).toNat = k := by omega
          (conv => arg 1; whnf); (repeat' (first | (refine brt (by assumption) ?_; (conv => arg 1; whnf)) | (refine brf (by assumption) ?_; (conv => arg 1; whnf)) | fail))
          refine br (fun h2 => ?_) (fun h2 => ?_)
          · have h2 : (!(decide (a.getD (k : Int).toNat 0 = b.getD (k : Int).toNat 0))) = true := h2
            (conv => arg 1; whnf); (repeat' (first | (refine brt (by assumption) ?_; (conv => arg 1; whnf)) | (refine brf (by assumption) ?_; (conv => arg 1; whnf)) | fail))
            refine leaveRet ?_
            show tr _
            (conv => arg 1; whnf); (repeat' (first | (refine brt (by assumption) ?_; (conv => arg 1; whnf)) | (refine brf (by assumption) ?_; (conv => arg 1; whnf)) | fail))
            refine finB (decide_eq_false fun e => ?_)
            rw [e] at h2
            simp at h2
          · have h2 : (!(decide (a.getD (k : Int).toNat 0 = b.getD (k : Int).toNat 0))) = false := h2
            (conv => arg 1; whnf); (repeat' (first | (refine brt (by assumption) ?_; (conv => arg 1; whnf)) | (refine brf (by assumption) ?_; (conv => arg 1; whnf)) | fail))
            rw [ek] at h2
            refine again (k + 1) [] ⟨hlt, fun j hj => ?_⟩ (by show a.length - (k + 1) < a.length - k; omega) List.nodup_nil ?_ True.intro rfl
            · rcases Nat.lt_or_ge j k with hj' | hj'
              · exact hall j hj'
              · have : j = k := by omega
                rw [this]; simpa using h2
            · repeat' (first | exact True.intro | exact Fit.dead _ | exact Fit.v _ | exact row_self eI _ | exact Fit.v' (congrArg (Value.int .i64) (nxt k (by omega)).symm) | refine And.intro ?_ ?_)
        · have hkl : k = a.length := by have := of_decide_eq_false h1; omega
          (conv => arg 1; whnf); (repeat' (first | (refine brt (by assumption) ?_; (conv => arg 1; whnf)) | (refine brf (by assumption) ?_; (conv => arg 1; whnf)) | fail))
          refine leave ?_
          show tr _
          (conv => arg 1; whnf); (repeat' (first | (refine brt (by assumption) ?_; (conv => arg 1; whnf)) | (refine brf (by assumption) ?_; (conv => arg 1; whnf)) | fail))
          exact finB (decide_eq_true (getD_extI hl fun j hj => hall j (by omega)))

/-! ### Truths -/
abbrev arrC (W : Nat → Bool) : List AV := (List.range 64).map fun i => boo (W i)
abbrev arrT (W : Nat → Bool) : Blk := .tab 1 64 fun k => [boo (W k)]
theorem fitArr {ρ : List Nat} {σ : St} {W W' : Nat → Bool} (h : ∀ i, i < 64 → W i = W' i) : FitL ρ σ (arrC W) (arrC W') := by
  have key : ∀ l : List Nat, (∀ i ∈ l, i < 64) → FitL ρ σ (l.map fun i => boo (W i)) (l.map fun i => boo (W' i)) := by
    intro l
    induction l with
    | nil => intro _; trivial
    | cons i l ih => intro hl; exact ⟨Fit.v' (congrArg Value.bool (h i (hl i List.mem_cons_self))), ih fun j hj => hl j (List.mem_cons_of_mem _ hj)⟩
  exact key _ fun i hi => List.mem_range.1 hi
theorem cut_rep (u : AV) {n i : Nat} (h : i < n) : cut 1 (List.replicate n u) i = [u] := by
  unfold cut
  rw [List.drop_replicate, Nat.mul_one]
  obtain ⟨m, hm⟩ : ∃ m, n - i = m + 1 := ⟨n - i - 1, by omega⟩
  rw [hm]; rfl
theorem cut_arr {W : Nat → Bool} {i : Nat} (h : i < 64) : cut 1 (arrC W) i = [boo (W i)] := by
  unfold cut
  rw [Nat.mul_one]
  apply List.ext_getElem?
  intro j
  rw [List.getElem?_take]
  split
  · rename_i hj
    obtain rfl : j = 0 := by omega
    rw [List.getElem?_drop]
    simp [arrC, h]
  · rename_i hj
    rw [List.getElem?_eq_none (by simp; omega)]
theorem bt_bit (n k : Nat) (hk : k < 64) : bt (n : Int) k = decide (((n / 2 ^ k : Nat) : Int).tmod 2 = 1) := by
  unfold bt
  rw [BitVec.ofInt_natCast, ← BitVec.testBit_toNat, BitVec.toNat_ofNat, Nat.testBit_mod_two_pow, decide_eq_true hk, Bool.true_and, Nat.testBit_eq_decide_div_mod_eq]
  generalize n / 2 ^ k = q
  rw [Int.tmod_eq_emod_of_nonneg (by omega)]
  exact decide_eq_decide.2 (by omega)
def allG : List AV → Option (Bool × AV) := fn1 dU fun s => giv (decide (0 ≤ s) && decide (s < 18446744073709551616)) (.a (arrC (bt s)))
theorem rall_ok : CtrOk Tryd.prog 24 (pureCtr allG) :=
  pureCtr_ok XF0_ok Tryd.func24 (by decide) rfl fun args u h => by
    obtain ⟨s, rfl, h⟩ := fn1_some h
    obtain ⟨hs, rfl⟩ := giv_some h
    simp only [Bool.and_eq_true, decide_eq_true_eq] at hs
    refine ⟨rfl, rfl, ?_⟩
    clear h
    obtain ⟨n, rfl⟩ : ∃ n : Nat, s = (n : Int) := ⟨s.toNat, by omega⟩
    unfold runF
    (conv => arg 1; whnf)
    refine loopM [0, 2, 3, 4] (fun k : Nat => k ≤ 64) (fun k => [(0, u64 ((n / 2 ^ k : Nat) : Int)), (4, i64 k)]) (fun k => [(1, arrT fun i => decide (i < k) && bt (n : Int) i)]) (fun k => 64 - k) 0 (Nat.zero_le _) rfl ?_ ?_ fun k hk => ?_
    · repeat' (first | exact True.intro | exact Fit.dead _ | exact Fit.v _ | exact .p rfl | refine And.intro ?_ ?_)
      exact Fit.v' (congrArg (Value.int .u64) (by simp))
    · refine ⟨⟨_, rfl, .tab fun _ _ => rfl⟩, ⟨_, rfl, .tab fun i hi => ?_⟩, trivial⟩
      show _ = cut 1 (List.replicate 64 (boo false)) i
      rw [cut_rep _ hi]
      show [boo (decide (i < 0) && bt (n : Int) i)] = _
      rw [decide_eq_false (Nat.not_lt_zero i)]; rfl
    · have hk : k ≤ 64 := hk
      (conv => arg 1; whnf)
      refine br (fun h => ?_) (fun h => ?_)
      · have hlt : k < 64 := by have := of_decide_eq_true h; omega
        have e1 : (decide (0 ≤ (k : Int)) && decide ((k : Int) < ((64 : Nat) : Int))) = true := by simp only [Bool.and_eq_true, decide_eq_true_eq]; omega
        have e2 : (!(decide ((2 : Int) = 0))) = true := rfl
        (conv => arg 1; whnf); (repeat' (first | (refine brt (by assumption) ?_; (conv => arg 1; whnf)) | (refine brf (by assumption) ?_; (conv => arg 1; whnf)) | fail))
        have e3 : decide ((k : Int).toNat < 64) = true := decide_eq_true (by omega)
        (conv => arg 1; whnf); (repeat' (first | (refine brt (by assumption) ?_; (conv => arg 1; whnf)) | (refine brf (by assumption) ?_; (conv => arg 1; whnf)) | fail))
        refine again (k + 1) [0, 1] hlt (by show 64 - (k + 1) < 64 - k; omega) (by decide) ?_ ?_ rfl
        · repeat' (first | exact True.intro | exact Fit.dead _ | exact Fit.v _ | exact .p rfl | exact Fit.v' (congrArg (Value.int .i64) (nxt k (by omega)).symm) | refine And.intro ?_ ?_)
          refine Fit.v' (congrArg (Value.int .u64) ?_)
          show ((n / 2 ^ (k + 1) : Nat) : Int) = IntKind.u64.wrap (((n / 2 ^ k : Nat) : Int).tdiv 2)
          have h9 := Nat.div_le_self n (2 ^ k)
          rw [Nat.pow_succ, ← Nat.div_div_eq_div_mul]
          generalize n / 2 ^ k = q at h9
          rw [Int.tdiv_eq_ediv_of_nonneg (by omega), wrapU]
          omega
        · refine ⟨⟨_, rfl, .tab fun _ _ => rfl⟩, ⟨_, rfl, .tab fun i hi => ?_⟩, trivial⟩
          show [boo (decide (i < k + 1) && bt (n : Int) i)] = if i = (k : Int).toNat then [boo (decide (((n / 2 ^ k : Nat) : Int).tmod 2 = 1))] else [boo (decide (i < k) && bt (n : Int) i)]
          by_cases hik : i = k
          · subst hik
            rw [if_pos (by omega), decide_eq_true (by omega : i < i + 1), bt_bit _ _ hlt]; rfl
          · rw [if_neg (by omega), decide_eq_decide.2 (show i < k + 1 ↔ i < k by omega)]
      · have hkl : k = 64 := by have := of_decide_eq_false h; omega
        (conv => arg 1; whnf); (repeat' (first | (refine brt (by assumption) ?_; (conv => arg 1; whnf)) | (refine brf (by assumption) ?_; (conv => arg 1; whnf)) | fail))
        refine leave ?_
        show tr _
        (conv => arg 1; whnf); (repeat' (first | (refine brt (by assumption) ?_; (conv => arg 1; whnf)) | (refine brf (by assumption) ?_; (conv => arg 1; whnf)) | fail))
        subst hkl
        exact finA (show FitL [] _ (arrC (bt (n : Int))) (arrC fun i => decide (i < 64) && bt (n : Int) i) from fitArr fun i hi => by rw [decide_eq_true hi]; rfl)
end Go.Proofs.YtaneamfnjhiigaaDoor.E
