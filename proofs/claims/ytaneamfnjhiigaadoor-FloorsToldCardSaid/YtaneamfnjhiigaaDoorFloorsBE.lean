/- Sets of floors: the highest floor. -/
import Derived.Test.YtaneamfnjhiigaaDoorFloorsE
namespace Go.Proofs.YtaneamfnjhiigaaDoor.E
open Go
set_option linter.unusedSimpArgs false
set_option linter.unusedVariables false
set_option maxRecDepth 100000
set_option maxHeartbeats 4000000
def l8 : List UInt8 := [0, 1, 2, 2, 3, 3, 3, 3, 4, 4, 4, 4, 4, 4, 4, 4, 5, 5, 5, 5, 5, 5, 5, 5, 5, 5, 5, 5, 5, 5, 5, 5, 6, 6, 6, 6, 6, 6, 6, 6, 6, 6, 6, 6, 6, 6, 6, 6, 6, 6, 6, 6, 6, 6, 6, 6, 6, 6, 6, 6, 6, 6, 6, 6, 7, 7, 7, 7, 7, 7, 7, 7, 7, 7, 7, 7, 7, 7, 7, 7, 7, 7, 7, 7, 7, 7, 7, 7, 7, 7, 7, 7, 7, 7, 7, 7, 7, 7, 7, 7, 7, 7, 7, 7, 7, 7, 7, 7, 7, 7, 7, 7, 7, 7, 7, 7, 7, 7, 7, 7, 7, 7, 7, 7, 7, 7, 7, 7, 8, 8, 8, 8, 8, 8, 8, 8, 8, 8, 8, 8, 8, 8, 8, 8, 8, 8, 8, 8, 8, 8, 8, 8, 8, 8, 8, 8, 8, 8, 8, 8, 8, 8, 8, 8, 8, 8, 8, 8, 8, 8, 8, 8, 8, 8, 8, 8, 8, 8, 8, 8, 8, 8, 8, 8, 8, 8, 8, 8, 8, 8, 8, 8, 8, 8, 8, 8, 8, 8, 8, 8, 8, 8, 8, 8, 8, 8, 8, 8, 8, 8, 8, 8, 8, 8, 8, 8, 8, 8, 8, 8, 8, 8, 8, 8, 8, 8, 8, 8, 8, 8, 8, 8, 8, 8, 8, 8, 8, 8, 8, 8, 8, 8, 8, 8, 8, 8, 8, 8, 8, 8, 8, 8, 8, 8, 8, 8]
theorem l8_all : ∀ y : _root_.Fin 256, byteAt ⟨l8.toArray⟩ (y.val : Int) = ((if y.val = 0 then 0 else y.val.log2 + 1 : Nat) : Int) := by decide +kernel
theorem byte_len {y : Int} (h0 : 0 ≤ y) (h1 : y < 256) : byteAt ⟨l8.toArray⟩ y = lenI y := by
  have hv := l8_all ⟨y.toNat, by omega⟩
  refine ((congrArg (byteAt ⟨l8.toArray⟩) (show y = ((y.toNat : Nat) : Int) by omega)).trans hv).trans ?_
  unfold lenI
  simp only
  by_cases h : y = 0
  · subst h; rfl
  · rw [if_neg h, if_neg (by omega)]; omega
theorem lenI_bd {y : Int} (h0 : 0 ≤ y) (h1 : y < 256) : 0 ≤ lenI y ∧ lenI y ≤ 8 := by
  rw [← byte_len h0 h1]
  have h : ∀ z : _root_.Fin 256, 0 ≤ byteAt ⟨l8.toArray⟩ (z.val : Int) ∧ byteAt ⟨l8.toArray⟩ (z.val : Int) ≤ 8 := by decide +kernel
  have := h ⟨y.toNat, by omega⟩
  rwa [show ((⟨y.toNat, by omega⟩ : _root_.Fin 256).val : Int) = y by simp only; omega] at this
theorem u8w {y : Int} (h0 : 0 ≤ y) (h1 : y < 256) : IntKind.u8.wrap y = y := by
  simp [IntKind.wrap, IntKind.bits, IntKind.signed]
  omega
theorem leafL {x y b : Int} (h0 : 0 ≤ y) (h1 : y < 256) (hb : 0 ≤ b ∧ b ≤ 56) (e : lenI x = b + lenI y) : lenI x = IntKind.i64.wrap (b + IntKind.i64.wrap (byteAt ⟨l8.toArray⟩ y)) := by
  have := lenI_bd h0 h1
  rw [byte_len h0 h1, wrap_i64' (lenI y) (by omega) (by omega), wrap_i64' (b + lenI y) (by omega) (by omega), e]
def l8G : List AV → Option (Bool × AV) := fn1 dU fun x => giv (decide (0 ≤ x) && decide (x < 18446744073709551616)) (i64 (lenI x))
theorem len_ok : CtrOk Tryd.prog 23 (pureCtr l8G) :=
  pureCtr_ok XF0_ok Tryd.func23 (by decide) rfl fun args u h => by
    obtain ⟨x, rfl, h⟩ := fn1_some h
    obtain ⟨hx, rfl⟩ := giv_some h
    simp only [Bool.and_eq_true, decide_eq_true_eq] at hx
    refine ⟨rfl, rfl, ?_⟩
    clear h
    unfold runF
    (conv => arg 1; whnf)
    have e9 : lenI x = 0 + lenI x := by omega
    refine br (fun g0 => ?_) (fun g0 => ?_)
    · have g0 : 4294967296 ≤ x := of_decide_eq_true g0
      (conv => arg 1; whnf)
      obtain ⟨y0, hy0⟩ : ∃ z, z = x.fdiv (2 ^ min (Int.toNat 32) IntKind.u64.bits) := ⟨_, rfl⟩
      rw [← hy0]
      rw [show (2 : Int) ^ min (Int.toNat 32) IntKind.u64.bits = 4294967296 by decide, Int.fdiv_eq_ediv_of_nonneg _ (by decide)] at hy0
      have a0 : 0 ≤ y0 := by omega
      have b0 : y0 < 4294967296 := by omega
      have e0 : lenI x = 32 + lenI y0 := by
        have := lenI_shr (x := x) 32 (by omega)
        rw [show (((2 ^ 32 : Nat)) : Int) = 4294967296 by decide, ← hy0] at this
        rw [e9, this]
        omega
      refine br (fun g1 => ?_) (fun g1 => ?_)
      · have g1 : 65536 ≤ y0 := of_decide_eq_true g1
        (conv => arg 1; whnf)
        obtain ⟨y1, hy1⟩ : ∃ z, z = y0.fdiv (2 ^ min (Int.toNat 16) IntKind.u64.bits) := ⟨_, rfl⟩
        rw [← hy1]
        rw [show (2 : Int) ^ min (Int.toNat 16) IntKind.u64.bits = 65536 by decide, Int.fdiv_eq_ediv_of_nonneg _ (by decide)] at hy1
        have a1 : 0 ≤ y1 := by omega
        have b1 : y1 < 65536 := by omega
        have e1 : lenI x = 48 + lenI y1 := by
          have := lenI_shr (x := y0) 16 (by omega)
          rw [show (((2 ^ 16 : Nat)) : Int) = 65536 by decide, ← hy1] at this
          rw [e0, this]
          omega
        refine br (fun g2 => ?_) (fun g2 => ?_)
        · have g2 : 256 ≤ y1 := of_decide_eq_true g2
          (conv => arg 1; whnf)
          obtain ⟨y2, hy2⟩ : ∃ z, z = y1.fdiv (2 ^ min (Int.toNat 8) IntKind.u64.bits) := ⟨_, rfl⟩
          rw [← hy2]
          rw [show (2 : Int) ^ min (Int.toNat 8) IntKind.u64.bits = 256 by decide, Int.fdiv_eq_ediv_of_nonneg _ (by decide)] at hy2
          have a2 : 0 ≤ y2 := by omega
          have b2 : y2 < 256 := by omega
          have e2 : lenI x = 56 + lenI y2 := by
            have := lenI_shr (x := y1) 8 (by omega)
            rw [show (((2 ^ 8 : Nat)) : Int) = 256 by decide, ← hy2] at this
            rw [e1, this]
            omega
          refine brt ?_ ?_
          · rw [u8w a2 b2]
            exact and2 (decide_eq_true a2) (decide_eq_true (show y2 < 256 from b2))
          rw [u8w a2 b2]
          (conv => arg 1; whnf)
          refine fin0 (Fit.v' (congrArg (Value.int .i64) ?_))
          show lenI x = IntKind.i64.wrap (IntKind.i64.wrap (IntKind.i64.wrap (32 + 16) + 8) + IntKind.i64.wrap (byteAt ⟨l8.toArray⟩ y2))
          exact leafL a2 b2 (by decide) (by first | exact e2 | (rw [show IntKind.i64.wrap (IntKind.i64.wrap (32 + 16) + 8) = 56 by decide]; exact e2))
        · have g2 : y1 < 256 := by have := of_decide_eq_false g2; omega
          (conv => arg 1; whnf)
          refine brt ?_ ?_
          · rw [u8w a1 g2]
            exact and2 (decide_eq_true a1) (decide_eq_true (show y1 < 256 from g2))
          rw [u8w a1 g2]
          (conv => arg 1; whnf)
          refine fin0 (Fit.v' (congrArg (Value.int .i64) ?_))
          show lenI x = IntKind.i64.wrap (IntKind.i64.wrap (32 + 16) + IntKind.i64.wrap (byteAt ⟨l8.toArray⟩ y1))
          exact leafL a1 g2 (by decide) (by first | exact e1 | (rw [show IntKind.i64.wrap (32 + 16) = 48 by decide]; exact e1))
      · have g1 : y0 < 65536 := by have := of_decide_eq_false g1; omega
        (conv => arg 1; whnf)
        refine br (fun g2 => ?_) (fun g2 => ?_)
        · have g2 : 256 ≤ y0 := of_decide_eq_true g2
          (conv => arg 1; whnf)
          obtain ⟨y2, hy2⟩ : ∃ z, z = y0.fdiv (2 ^ min (Int.toNat 8) IntKind.u64.bits) := ⟨_, rfl⟩
          rw [← hy2]
          rw [show (2 : Int) ^ min (Int.toNat 8) IntKind.u64.bits = 256 by decide, Int.fdiv_eq_ediv_of_nonneg _ (by decide)] at hy2
          have a2 : 0 ≤ y2 := by omega
          have b2 : y2 < 256 := by omega
          have e2 : lenI x = 40 + lenI y2 := by
            have := lenI_shr (x := y0) 8 (by omega)
            rw [show (((2 ^ 8 : Nat)) : Int) = 256 by decide, ← hy2] at this
            rw [e0, this]
            omega
          refine brt ?_ ?_
          · rw [u8w a2 b2]
            exact and2 (decide_eq_true a2) (decide_eq_true (show y2 < 256 from b2))
          rw [u8w a2 b2]
          (conv => arg 1; whnf)
          refine fin0 (Fit.v' (congrArg (Value.int .i64) ?_))
          show lenI x = IntKind.i64.wrap (IntKind.i64.wrap (32 + 8) + IntKind.i64.wrap (byteAt ⟨l8.toArray⟩ y2))
          exact leafL a2 b2 (by decide) (by first | exact e2 | (rw [show IntKind.i64.wrap (32 + 8) = 40 by decide]; exact e2))
        · have g2 : y0 < 256 := by have := of_decide_eq_false g2; omega
          (conv => arg 1; whnf)
          refine brt ?_ ?_
          · rw [u8w a0 g2]
            exact and2 (decide_eq_true a0) (decide_eq_true (show y0 < 256 from g2))
          rw [u8w a0 g2]
          (conv => arg 1; whnf)
          refine fin0 (Fit.v' (congrArg (Value.int .i64) ?_))
          show lenI x = IntKind.i64.wrap (32 + IntKind.i64.wrap (byteAt ⟨l8.toArray⟩ y0))
          exact leafL a0 g2 (by decide) (by first | exact e0 | (rw [show 32 = 32 by decide]; exact e0))
    · have g0 : x < 4294967296 := by have := of_decide_eq_false g0; omega
      (conv => arg 1; whnf)
      refine br (fun g1 => ?_) (fun g1 => ?_)
      · have g1 : 65536 ≤ x := of_decide_eq_true g1
        (conv => arg 1; whnf)
        obtain ⟨y1, hy1⟩ : ∃ z, z = x.fdiv (2 ^ min (Int.toNat 16) IntKind.u64.bits) := ⟨_, rfl⟩
        rw [← hy1]
        rw [show (2 : Int) ^ min (Int.toNat 16) IntKind.u64.bits = 65536 by decide, Int.fdiv_eq_ediv_of_nonneg _ (by decide)] at hy1
        have a1 : 0 ≤ y1 := by omega
        have b1 : y1 < 65536 := by omega
        have e1 : lenI x = 16 + lenI y1 := by
          have := lenI_shr (x := x) 16 (by omega)
          rw [show (((2 ^ 16 : Nat)) : Int) = 65536 by decide, ← hy1] at this
          rw [e9, this]
          omega
        refine br (fun g2 => ?_) (fun g2 => ?_)
        · have g2 : 256 ≤ y1 := of_decide_eq_true g2
          (conv => arg 1; whnf)
          obtain ⟨y2, hy2⟩ : ∃ z, z = y1.fdiv (2 ^ min (Int.toNat 8) IntKind.u64.bits) := ⟨_, rfl⟩
          rw [← hy2]
          rw [show (2 : Int) ^ min (Int.toNat 8) IntKind.u64.bits = 256 by decide, Int.fdiv_eq_ediv_of_nonneg _ (by decide)] at hy2
          have a2 : 0 ≤ y2 := by omega
          have b2 : y2 < 256 := by omega
          have e2 : lenI x = 24 + lenI y2 := by
            have := lenI_shr (x := y1) 8 (by omega)
            rw [show (((2 ^ 8 : Nat)) : Int) = 256 by decide, ← hy2] at this
            rw [e1, this]
            omega
          refine brt ?_ ?_
          · rw [u8w a2 b2]
            exact and2 (decide_eq_true a2) (decide_eq_true (show y2 < 256 from b2))
          rw [u8w a2 b2]
          (conv => arg 1; whnf)
          refine fin0 (Fit.v' (congrArg (Value.int .i64) ?_))
          show lenI x = IntKind.i64.wrap (IntKind.i64.wrap (IntKind.i64.wrap (0 + 16) + 8) + IntKind.i64.wrap (byteAt ⟨l8.toArray⟩ y2))
          exact leafL a2 b2 (by decide) (by first | exact e2 | (rw [show IntKind.i64.wrap (IntKind.i64.wrap (0 + 16) + 8) = 24 by decide]; exact e2))
        · have g2 : y1 < 256 := by have := of_decide_eq_false g2; omega
          (conv => arg 1; whnf)
          refine brt ?_ ?_
          · rw [u8w a1 g2]
            exact and2 (decide_eq_true a1) (decide_eq_true (show y1 < 256 from g2))
          rw [u8w a1 g2]
          (conv => arg 1; whnf)
          refine fin0 (Fit.v' (congrArg (Value.int .i64) ?_))
          show lenI x = IntKind.i64.wrap (IntKind.i64.wrap (0 + 16) + IntKind.i64.wrap (byteAt ⟨l8.toArray⟩ y1))
          exact leafL a1 g2 (by decide) (by first | exact e1 | (rw [show IntKind.i64.wrap (0 + 16) = 16 by decide]; exact e1))
      · have g1 : x < 65536 := by have := of_decide_eq_false g1; omega
        (conv => arg 1; whnf)
        refine br (fun g2 => ?_) (fun g2 => ?_)
        · have g2 : 256 ≤ x := of_decide_eq_true g2
          (conv => arg 1; whnf)
          obtain ⟨y2, hy2⟩ : ∃ z, z = x.fdiv (2 ^ min (Int.toNat 8) IntKind.u64.bits) := ⟨_, rfl⟩
          rw [← hy2]
          rw [show (2 : Int) ^ min (Int.toNat 8) IntKind.u64.bits = 256 by decide, Int.fdiv_eq_ediv_of_nonneg _ (by decide)] at hy2
          have a2 : 0 ≤ y2 := by omega
          have b2 : y2 < 256 := by omega
          have e2 : lenI x = 8 + lenI y2 := by
            have := lenI_shr (x := x) 8 (by omega)
            rw [show (((2 ^ 8 : Nat)) : Int) = 256 by decide, ← hy2] at this
            rw [e9, this]
            omega
          refine brt ?_ ?_
          · rw [u8w a2 b2]
            exact and2 (decide_eq_true a2) (decide_eq_true (show y2 < 256 from b2))
          rw [u8w a2 b2]
          (conv => arg 1; whnf)
          refine fin0 (Fit.v' (congrArg (Value.int .i64) ?_))
          show lenI x = IntKind.i64.wrap (IntKind.i64.wrap (0 + 8) + IntKind.i64.wrap (byteAt ⟨l8.toArray⟩ y2))
          exact leafL a2 b2 (by decide) (by first | exact e2 | (rw [show IntKind.i64.wrap (0 + 8) = 8 by decide]; exact e2))
        · have g2 : x < 256 := by have := of_decide_eq_false g2; omega
          (conv => arg 1; whnf)
          refine brt ?_ ?_
          · rw [u8w hx.1 g2]
            exact and2 (decide_eq_true hx.1) (decide_eq_true (show x < 256 from g2))
          rw [u8w hx.1 g2]
          (conv => arg 1; whnf)
          refine fin0 (Fit.v' (congrArg (Value.int .i64) ?_))
          show lenI x = IntKind.i64.wrap (0 + IntKind.i64.wrap (byteAt ⟨l8.toArray⟩ x))
          exact leafL hx.1 g2 (by decide) (by first | exact e9 | (rw [show 0 = 0 by decide]; exact e9))
end Go.Proofs.YtaneamfnjhiigaaDoor.E
