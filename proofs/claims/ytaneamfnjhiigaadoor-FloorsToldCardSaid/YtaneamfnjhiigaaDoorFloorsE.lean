/- Sets of floors: what the bits' functions answer. -/
import Derived.Test.YtaneamfnjhiigaaDoorTypes
import Derived.Test.YtaneamfnjhiigaaDoorEFresh
import Derived.Test.YtaneamfnjhiigaaDoorFloorsMath
namespace Go.Proofs.YtaneamfnjhiigaaDoor.E
open Go
set_option linter.unusedSimpArgs false
set_option linter.unusedVariables false
set_option maxRecDepth 100000
set_option maxHeartbeats 4000000
def XF0 : Cx := ⟨tt, [], [], []⟩
theorem XF0_ok : CxOk Tryd.prog XF0 := CxOk.nil tt_ok mixed
theorem wrap_i64' (n : Int) (h0 : -9223372036854775808 ≤ n) (h1 : n < 9223372036854775808) : IntKind.i64.wrap n = n := by
  rw [IntKind.wrap_i64]; omega
def deC : List AV := ([0, 1, 56, 2, 57, 49, 28, 3, 61, 58, 42, 50, 38, 29, 17, 4, 62, 47, 59, 36, 45, 43, 51, 22, 53, 39, 33, 30, 24, 18, 12, 5, 63, 55, 48, 27, 60, 41, 37, 16, 46, 35, 44, 21, 52, 32, 23, 11, 54, 26, 40, 15, 34, 20, 31, 10, 25, 14, 19, 9, 13, 8, 7, 6] : List Int).map fun n => .v (.int .u8 n)
theorem deC_ld : ∀ (q : Nat), q < 64 → (∃ e, look tt 5 = some e ∧ ldCells e deC q = some (.v (.int .u8 ((deB.getD q 0 : Nat) : Int))))
  | 0, _ => ⟨_, rfl, rfl⟩
  | 1, _ => ⟨_, rfl, rfl⟩
  | 2, _ => ⟨_, rfl, rfl⟩
  | 3, _ => ⟨_, rfl, rfl⟩
  | 4, _ => ⟨_, rfl, rfl⟩
  | 5, _ => ⟨_, rfl, rfl⟩
  | 6, _ => ⟨_, rfl, rfl⟩
  | 7, _ => ⟨_, rfl, rfl⟩
  | 8, _ => ⟨_, rfl, rfl⟩
  | 9, _ => ⟨_, rfl, rfl⟩
  | 10, _ => ⟨_, rfl, rfl⟩
  | 11, _ => ⟨_, rfl, rfl⟩
  | 12, _ => ⟨_, rfl, rfl⟩
  | 13, _ => ⟨_, rfl, rfl⟩
  | 14, _ => ⟨_, rfl, rfl⟩
  | 15, _ => ⟨_, rfl, rfl⟩
  | 16, _ => ⟨_, rfl, rfl⟩
  | 17, _ => ⟨_, rfl, rfl⟩
  | 18, _ => ⟨_, rfl, rfl⟩
  | 19, _ => ⟨_, rfl, rfl⟩
  | 20, _ => ⟨_, rfl, rfl⟩
  | 21, _ => ⟨_, rfl, rfl⟩
  | 22, _ => ⟨_, rfl, rfl⟩
  | 23, _ => ⟨_, rfl, rfl⟩
  | 24, _ => ⟨_, rfl, rfl⟩
  | 25, _ => ⟨_, rfl, rfl⟩
  | 26, _ => ⟨_, rfl, rfl⟩
  | 27, _ => ⟨_, rfl, rfl⟩
  | 28, _ => ⟨_, rfl, rfl⟩
  | 29, _ => ⟨_, rfl, rfl⟩
  | 30, _ => ⟨_, rfl, rfl⟩
  | 31, _ => ⟨_, rfl, rfl⟩
  | 32, _ => ⟨_, rfl, rfl⟩
  | 33, _ => ⟨_, rfl, rfl⟩
  | 34, _ => ⟨_, rfl, rfl⟩
  | 35, _ => ⟨_, rfl, rfl⟩
  | 36, _ => ⟨_, rfl, rfl⟩
  | 37, _ => ⟨_, rfl, rfl⟩
  | 38, _ => ⟨_, rfl, rfl⟩
  | 39, _ => ⟨_, rfl, rfl⟩
  | 40, _ => ⟨_, rfl, rfl⟩
  | 41, _ => ⟨_, rfl, rfl⟩
  | 42, _ => ⟨_, rfl, rfl⟩
  | 43, _ => ⟨_, rfl, rfl⟩
  | 44, _ => ⟨_, rfl, rfl⟩
  | 45, _ => ⟨_, rfl, rfl⟩
  | 46, _ => ⟨_, rfl, rfl⟩
  | 47, _ => ⟨_, rfl, rfl⟩
  | 48, _ => ⟨_, rfl, rfl⟩
  | 49, _ => ⟨_, rfl, rfl⟩
  | 50, _ => ⟨_, rfl, rfl⟩
  | 51, _ => ⟨_, rfl, rfl⟩
  | 52, _ => ⟨_, rfl, rfl⟩
  | 53, _ => ⟨_, rfl, rfl⟩
  | 54, _ => ⟨_, rfl, rfl⟩
  | 55, _ => ⟨_, rfl, rfl⟩
  | 56, _ => ⟨_, rfl, rfl⟩
  | 57, _ => ⟨_, rfl, rfl⟩
  | 58, _ => ⟨_, rfl, rfl⟩
  | 59, _ => ⟨_, rfl, rfl⟩
  | 60, _ => ⟨_, rfl, rfl⟩
  | 61, _ => ⟨_, rfl, rfl⟩
  | 62, _ => ⟨_, rfl, rfl⟩
  | 63, _ => ⟨_, rfl, rfl⟩
  | q + 64, h => absurd h (by omega)
theorem ldTab {fr : List AV} {σ : St} {x : Operand} {q : Nat} (hx : ev fr x = .ip deC (sealed (0 + (q : Int).toNat * 1))) (hq : q < 64) : aOp tt (.load 5 x) fr σ = some (true, .v (.int .u8 ((deB.getD q 0 : Nat) : Int)), σ) := by
  obtain ⟨e, he, h1⟩ := deC_ld q hq
  show keep2 σ (aLoad tt 5 (ev fr x) σ) = _
  rw [hx, sealed_eq, show 0 + (q : Int).toNat * 1 = q by omega]
  unfold aLoad
  simp only [he, h1]
  rfl
def tzN (x : Int) : Int := if x = 0 then 64 else (lowI x : Int)
def tzG : List AV → Option (Bool × AV) := fn1 dU fun x => giv (decide (0 ≤ x) && decide (x < 18446744073709551616)) (i64 (tzN x))
theorem tz_ok : CtrOk Tryd.prog 21 (pureCtr tzG) :=
  pureCtr_ok XF0_ok Tryd.func21 (by decide) rfl fun args u h => by
    obtain ⟨x, rfl, h⟩ := fn1_some h
    obtain ⟨hx, rfl⟩ := giv_some h
    simp only [Bool.and_eq_true, decide_eq_true_eq] at hx
    refine ⟨rfl, rfl, ?_⟩
    clear h
    unfold runF
    (conv => arg 1; whnf)
    refine br (fun h1 => ?_) (fun h1 => ?_)
    · (conv => arg 1; whnf)
      have h1 := of_decide_eq_true h1
      exact fin0 (by unfold tzN; rw [if_pos h1]; exact .v _)
    · have h1 : ¬ x = 0 := of_decide_eq_false h1
      have hb : BitVec.ofInt 64 x ≠ 0#64 := fun e => by
        have := congrArg BitVec.toNat e
        rw [BitVec.toNat_ofInt] at this
        simp at this
        omega
      obtain ⟨hk, _, _⟩ := low_spec hb
      obtain ⟨d1, d2⟩ := deB_all ⟨lowI x, hk⟩
      (conv => arg 1; whnf)
      rw [tz_and hb, tz_idx hk]
      simp only at d1 d2
      generalize 2 ^ lowI x * 285870213051353865 % 18446744073709551616 / 288230376151711744 = q at d1 d2 ⊢
      have c1 : sealed (decide (0 ≤ (q : Int)) && decide ((q : Int) < ((64 : Nat) : Int))) = true := by rw [sealed_eq]; simp only [Bool.and_eq_true, decide_eq_true_eq]; omega
      (conv => arg 1; whnf); (repeat' (first | (refine brt (by assumption) ?_; (conv => arg 1; whnf)) | (refine brf (by assumption) ?_; (conv => arg 1; whnf)) | fail))
      conv in (aOp _ _ _ _) => tactic => exact ldTab (q := q) rfl d1
      (conv => arg 1; whnf); (repeat' (first | (refine brt (by assumption) ?_; (conv => arg 1; whnf)) | (refine brf (by assumption) ?_; (conv => arg 1; whnf)) | fail))
      exact fin0 (Fit.v' (congrArg (Value.int .i64) (by rw [d2, wrap_i64' _ (by omega) (by omega)]; unfold tzN; rw [if_neg h1])))
end Go.Proofs.YtaneamfnjhiigaaDoor.E
