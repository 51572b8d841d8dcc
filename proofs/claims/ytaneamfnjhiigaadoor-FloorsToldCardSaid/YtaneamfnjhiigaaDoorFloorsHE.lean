/- The document's answers on sets of floors, on: numbers, lists, the nearest one. -/
import Derived.Test.YtaneamfnjhiigaaDoorFloorsGE
namespace Go.Proofs.YtaneamfnjhiigaaDoor.E
open Go
set_option linter.unusedSimpArgs false
set_option linter.unusedVariables false
set_option maxRecDepth 100000
set_option maxHeartbeats 4000000
def rdBools : List AV → Option (List Bool)
  | [] => some []
  | .v (.bool b) :: l => match rdBools l with | some r => some (b :: r) | none => none
  | _ => none
theorem rdBools_some : ∀ {l : List AV} {r : List Bool}, rdBools l = some r → l = r.map boo
  | [], r, h => by obtain rfl := Option.some.inj h; rfl
  | x :: l, r, h => by
    unfold rdBools at h
    split at h
    · rename_i e; cases e
    · rename_i b l' e
      obtain ⟨rfl, rfl⟩ := List.cons.inj e
      split at h
      · rename_i r' hr
        obtain rfl := Option.some.inj h
        rw [rdBools_some hr]; rfl
      · cases h
    · cases h
theorem bools_arr {bl : List Bool} (h : bl.length = 64) : bl.map boo = arrC fun i => bl.getD i false := by
  apply List.ext_getElem?
  intro i
  unfold arrC
  rcases Nat.lt_or_ge i 64 with g | g
  · rw [List.getElem?_map, List.getElem?_map, List.getElem?_range g, List.getElem?_eq_getElem (by omega)]
    simp [List.getD_eq_getElem?_getD, List.getElem?_eq_getElem (show i < bl.length by omega)]
  · rw [List.getElem?_eq_none (by simp; omega), List.getElem?_eq_none (by simp; omega)]
/-- The uppermost k truths as a number. -/
def numK (W : Nat → Bool) : Nat → Nat
  | 0 => 0
  | k + 1 => 2 * numK W k + (W (63 - k)).toNat
theorem numK_lt (W : Nat → Bool) : ∀ k, numK W k < 2 ^ k := by
  intro k
  induction k with
  | zero => simp [numK]
  | succ k ih =>
    rw [numK, Nat.pow_succ]
    have : (W (63 - k)).toNat ≤ 1 := by cases W (63 - k) <;> simp
    omega
theorem numK_bit (W : Nat → Bool) : ∀ k, k ≤ 64 → ∀ j, j < k → (numK W k).testBit j = W (64 - k + j) := by
  intro k
  induction k with
  | zero => intro _ j hj; omega
  | succ k ih =>
    intro hk j hj
    rw [numK]
    cases j with
    | zero =>
      rw [Nat.testBit_zero, show 64 - (k + 1) + 0 = 63 - k by omega]
      cases W (63 - k) <;> simp
    | succ j =>
      rw [Nat.testBit_succ, show (2 * numK W k + (W (63 - k)).toNat) / 2 = numK W k by (have : (W (63 - k)).toNat ≤ 1 := by cases W (63 - k) <;> simp); omega, ih (by omega) j (by omega)]
      congr 1
      omega
theorem num_bt (W : Nat → Bool) {j : Nat} (hj : j < 64) : bt ((numK W 64 : Nat) : Int) j = W j := by
  have h := numK_lt W 64
  rw [bt_toNat ⟨by omega, by omega⟩, Int.toNat_natCast, numK_bit W 64 (by omega) j hj]
  congr 1
  omega
theorem num_ok (W : Nat → Bool) : okU ((numK W 64 : Nat) : Int) := by
  have h := numK_lt W 64
  exact ⟨by omega, by omega⟩
theorem num_eq {W : Nat → Bool} {s : Int} (hs : okU s) (h : ∀ j, j < 64 → bt s j = W j) : s = ((numK W 64 : Nat) : Int) := eq_of_bt hs (num_ok W) fun j hj => by rw [num_bt W hj, h j hj]
theorem arr_get (W : Nat → Bool) {i : Nat} (h : i < 64) : (arrC W)[i]? = some (boo (W i)) := by simp [arrC, h]
theorem ldArr {W : Nat → Bool} {σ : St} {l i : Nat} (h : σ[l]? = some (.lit (arrC W))) (hf : i < 64) : aLoad tt 4 (.q l 1 i 0) σ = some (true, boo (W i)) := by
  have e1 : look tt 4 = some te4 := rfl
  have e2 : (arrC W)[i * 1 + 0]? = some (boo (W i)) := by rw [show i * 1 + 0 = i by omega, arr_get W hf]
  unfold aLoad
  rw [e1]
  simp only [h]
  simp only [ldCells, show isAggD te4.td = false from rfl, e2]
  rfl
theorem ldArrOp {fr : List AV} {σ : St} {x : Operand} {l i : Nat} {W : Nat → Bool} (hx : ev fr x = .q l 1 i 0) (h : σ[l]? = some (.lit (arrC W))) (hf : i < 64) :
    aOp tt (.load 4 x) fr σ = some (true, boo (W i), σ) := by
  simp only [aOp, hx, ldArr h hf, keep2]
noncomputable def numF (bl : List Bool) : Int := sealed ((numK (fun i => bl.getD i false) 64 : Nat) : Int)
noncomputable def numG : List AV → Option (Bool × AV)
  | [.a cs] => match rdBools cs with
    | some bl => giv (Nat.beq bl.length 64) (u64 (numF bl))
    | none => none
  | _ => none
theorem rnum_ok : CtrOk Tryd.prog 14 (pureCtr numG) :=
  pureCtr_ok XF0_ok Tryd.func14 (by decide) rfl fun args u h => by
    unfold numG at h
    split at h
    case h_2 => cases h
    rename_i cs
    split at h
    case h_2 => cases h
    rename_i bl hbl
    obtain ⟨hl, rfl⟩ := giv_some h
    have hl := Nat.eq_of_beq_eq_true hl
    obtain ⟨W, hW⟩ : ∃ W : Nat → Bool, W = fun i => bl.getD i false := ⟨_, rfl⟩
    have e := rdBools_some hbl
    rw [bools_arr hl, ← hW] at e
    subst e
    have eN : numF bl = ((numK W 64 : Nat) : Int) := by unfold numF; rw [sealed_eq, ← hW]
    rw [eN] at h ⊢
    refine ⟨rfl, rfl, ?_⟩
    clear h hbl hW hl
    unfold runF
    (conv => arg 1; whnf)
    refine loopM [1, 3, 4] (fun k : Nat => k ≤ 64) (fun k => [(3, u64 ((numK W k : Nat) : Int)), (4, i64 (63 - (k : Int)))]) (fun _ => []) (fun k => 64 - k) 0 (Nat.zero_le _) rfl ?_ ?_ fun k hk => ?_
    · repeat' (first | exact True.intro | exact Fit.dead _ | exact Fit.v _ | exact .i fun _ _ => rfl | exact Fit.ip | exact .p rfl | exact .q rfl | exact .s rfl | exact .y rfl | exact Fit.z | exact ⟨_, rfl, .gone _⟩ | exact ⟨_, rfl, .lrec _⟩ | exact ⟨_, rfl, .held⟩ | exact ⟨_, rfl, .tab fun _ _ => rfl⟩ | refine Fit.al ?_ | refine Fit.fl ?_ ?_ | refine ⟨_, rfl, .lit ?_⟩ | refine And.intro ?_ ?_)
    · exact ⟨⟨_, rfl, .lit (fitArr fun _ _ => rfl)⟩, trivial⟩
    · have hk : k ≤ 64 := hk
      have hlt' := numK_lt W k
      (conv => arg 1; whnf)
      refine br (fun h => ?_) (fun h => ?_)
      · have hlt : k < 64 := by have := of_decide_eq_true h; omega
        have hlt1 := numK_lt W (k + 1)
        have hp : (2 : Nat) ^ (k + 1) ≤ 2 ^ 64 := Nat.pow_le_pow_right (by decide) (by omega)
        have e1 : (decide (0 ≤ 63 - (k : Int)) && decide (63 - (k : Int) < ((64 : Nat) : Int))) = true := by simp only [Bool.and_eq_true, decide_eq_true_eq]; omega
        have e2 : decide ((63 - (k : Int)).toNat < 64) = true := decide_eq_true (by omega)
        have ek : (63 - (k : Int)).toNat = 63 - k := by omega
        have es : IntKind.i64.wrap (63 - (k : Int) - 1) = 63 - ((k + 1 : Nat) : Int) := by rw [wrap_i64' _ (by omega) (by omega)]; omega
        have ed : IntKind.u64.wrap (2 * ((numK W k : Nat) : Int)) = ((2 * numK W k : Nat) : Int) := by rw [wrapU]; simp only [numK] at hlt1; omega
        (conv => arg 1; whnf); (repeat' (first | (refine brt (by assumption) ?_; (conv => arg 1; whnf)) | (refine brf (by assumption) ?_; (conv => arg 1; whnf)) | fail))
        conv in (aOp _ _ _ _) => tactic => exact ldArrOp (l := 0) (i := (63 - (k : Int)).toNat) (W := W) rfl rfl (by omega)
        (conv => arg 1; whnf); (repeat' (first | (refine brt (by assumption) ?_; (conv => arg 1; whnf)) | (refine brf (by assumption) ?_; (conv => arg 1; whnf)) | fail))
        refine br (fun h1 => ?_) (fun h1 => ?_)
        · have h1 : W (63 - (k : Int)).toNat = true := h1
          rw [ek] at h1
          have en : numK W (k + 1) = 2 * numK W k + 1 := by rw [numK, h1]; rfl
          (conv => arg 1; whnf); (repeat' (first | (refine brt (by assumption) ?_; (conv => arg 1; whnf)) | (refine brf (by assumption) ?_; (conv => arg 1; whnf)) | fail))
          refine again (k + 1) [0] hlt (by show 64 - (k + 1) < 64 - k; omega) (by decide) ?_ ?_ rfl
          · repeat' (first | exact True.intro | exact Fit.dead _ | exact .p rfl | exact Fit.v' (congrArg (Value.int .i64) es.symm) | exact Fit.v' (congrArg (Value.int .u64) (show ((numK W (k + 1) : Nat) : Int) = IntKind.u64.wrap (IntKind.u64.wrap (2 * ((numK W k : Nat) : Int)) + 1) by rw [ed, en, wrapU]; omega)) | refine And.intro ?_ ?_)
          · exact ⟨⟨_, rfl, .lit (fitArr fun _ _ => rfl)⟩, trivial⟩
        · have h1 : W (63 - (k : Int)).toNat = false := h1
          rw [ek] at h1
          have en : numK W (k + 1) = 2 * numK W k := by rw [numK, h1]; rfl
          (conv => arg 1; whnf); (repeat' (first | (refine brt (by assumption) ?_; (conv => arg 1; whnf)) | (refine brf (by assumption) ?_; (conv => arg 1; whnf)) | fail))
          refine again (k + 1) [0] hlt (by show 64 - (k + 1) < 64 - k; omega) (by decide) ?_ ?_ rfl
          · repeat' (first | exact True.intro | exact Fit.dead _ | exact .p rfl | exact Fit.v' (congrArg (Value.int .i64) es.symm) | exact Fit.v' (congrArg (Value.int .u64) (show ((numK W (k + 1) : Nat) : Int) = IntKind.u64.wrap (2 * ((numK W k : Nat) : Int)) by rw [ed, en])) | refine And.intro ?_ ?_)
          · exact ⟨⟨_, rfl, .lit (fitArr fun _ _ => rfl)⟩, trivial⟩
      · have hkl : k = 64 := by have := of_decide_eq_false h; omega
        subst hkl
        (conv => arg 1; whnf); (repeat' (first | (refine brt (by assumption) ?_; (conv => arg 1; whnf)) | (refine brf (by assumption) ?_; (conv => arg 1; whnf)) | fail))
        refine leave ?_
        show tr _
        (conv => arg 1; whnf); (repeat' (first | (refine brt (by assumption) ?_; (conv => arg 1; whnf)) | (refine brf (by assumption) ?_; (conv => arg 1; whnf)) | fail))
        exact finU rfl
end Go.Proofs.YtaneamfnjhiigaaDoor.E
