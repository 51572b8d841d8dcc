/- Sets of floors: all floors below one. -/
import Derived.Test.YtaneamfnjhiigaaDoorFloorsBE
namespace Go.Proofs.YtaneamfnjhiigaaDoor.E
open Go
set_option linter.unusedSimpArgs false
set_option linter.unusedVariables false
set_option maxRecDepth 100000
set_option maxHeartbeats 4000000
def toN (n : Int) : Nat := (mm true (mm false n 64) 0).toNat
theorem toN_eq (n : Int) : toN n ≤ 64 ∧ ∀ f : Nat, f < 64 → (f < toN n ↔ (f : Int) < n) := by
  unfold toN mm
  simp only
  split <;> split <;> (refine ⟨by omega, fun f hf => by omega⟩)
def toF (n : Int) : Int := IntKind.u64.wrap (IntKind.u64.wrap (1 * 2 ^ min (toN n) 64) - 1)
theorem has_to {n f : Int} (f0 : 0 ≤ f) (f1 : f < 64) : hasF (toF n) f = decide (f < n) := by
  obtain ⟨h1, h2⟩ := toN_eq n
  have h3 := h2 f.toNat (by omega)
  rw [hasF_eq f0 f1]
  unfold toF
  rw [ofI_wrap, Nat.min_eq_left h1]
  have hp : (2 : Int) ^ toN n = ((2 ^ toN n : Nat) : Int) := by simp
  have hle : 2 ^ toN n ≤ 2 ^ 64 := Nat.pow_le_pow_right (by decide) h1
  have hpos : 0 < 2 ^ toN n := Nat.pow_pos (by decide)
  have e : (BitVec.ofInt 64 (IntKind.u64.wrap (1 * 2 ^ toN n) - 1)).toNat = 2 ^ toN n - 1 := by
    rw [BitVec.toNat_ofInt, wrapU, Int.one_mul, hp]
    generalize 2 ^ toN n = N at hle hpos
    omega
  rw [← BitVec.testBit_toNat, e, Nat.testBit_two_pow_sub_one]
  exact decide_eq_decide.2 (by omega)
def toG : List AV → Option (Bool × AV) := fn1 dI fun n => giv true (u64 (toF n))
theorem to_ok : CtrOk Tryd.prog 15 (pureCtr toG) :=
  pureCtr_ok XF0_ok Tryd.func15 (by decide) rfl fun args u h => by
    obtain ⟨n, rfl, h⟩ := fn1_some h
    obtain ⟨_, rfl⟩ := giv_some h
    refine ⟨rfl, rfl, ?_⟩
    clear h
    unfold runF
    have c1 : decide (0 ≤ mm true (mm false n 64) 0) = true := decide_eq_true (by unfold mm; simp only; split <;> split <;> omega)
    (conv => arg 1; whnf); (repeat' (first | (refine brt (by assumption) ?_; (conv => arg 1; whnf)) | (refine brf (by assumption) ?_; (conv => arg 1; whnf)) | fail))
    exact fin0 (.v _)
end Go.Proofs.YtaneamfnjhiigaaDoor.E
