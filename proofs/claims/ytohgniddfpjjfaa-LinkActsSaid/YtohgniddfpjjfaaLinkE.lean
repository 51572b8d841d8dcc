/- The contracts of links, by the program and by the document. -/
import Derived.Test.YtohgniddfpjjfaaNumE
import Derived.Test.YtohgniddfpjjfaaBitsE
import Derived.Test.YtohgniddfpjjfaaEBor
namespace Go.Proofs.Ytohgniddfpjjfaa.E
open Go NumMath
set_option linter.unusedSimpArgs false
set_option maxRecDepth 100000
set_option maxHeartbeats 4000000

theorem wil (n : Int) (h : -9223372036854775808 ≤ n) (h' : n ≤ 9223372036854775807) : IntKind.i64.wrap n = n := by rw [IntKind.wrap_i64]; omega
/-- What Take answers: the error's number, and what is known then. -/
def lkTake (la si q : Int) : Int × Int × Int :=
  if q < 0 ∨ 65535 < q then (1, la, si)
  else if si ≠ -1 ∧ ((q - la) % 65536 = 0 ∨ 32767 < (q - la) % 65536) then (7, la, si) else (0, q, 0)
def lkTakeG : List AV → St → Option (Bool × AV × St)
  | [.p 0 0, .v (.int .i64 q)], [.lit [.v (.int .i64 la), .v (.int .i64 si)]] => some (decide (0 ≤ la) && decide (la ≤ 65535), i64 (lkTake la si q).1, [.lit [i64 (lkTake la si q).2.1, i64 (lkTake la si q).2.2]])
  | _, _ => none
theorem lkTake_ok : CtrOk Try.prog 32 (localCtr lkTakeG) :=
  localCtr_ok X0_ok Try.func32 (by decide) rfl fun args σ u σ' h => by
    unfold lkTakeG at h
    split at h
    case h_2 => cases h
    rename_i q la si
    simp only [Option.some.injEq, Prod.mk.injEq, Bool.and_eq_true, decide_eq_true_eq] at h
    obtain ⟨hb, rfl, rfl⟩ := h
    have hm : bits .and .i64 (IntKind.i64.wrap (q - la)) 65535 = (q - la) % 65536 := by rw [and65535, IntKind.wrap_i64]; omega
    unfold runF
    (conv => arg 1; whnf)
    repeat' (first | (refine brt (by assumption) ?_; (conv => arg 1; whnf)) | (refine brf (by assumption) ?_; (conv => arg 1; whnf)) | (refine br (fun h => ?_) (fun h => ?_) <;> ((conv => arg 1; whnf))))
    all_goals refine finS [0] (by decide) (.v' (congrArg (Value.int .i64) ?_)) ⟨⟨_, rfl, .lit ⟨.v' (congrArg (Value.int .i64) ?_), .v' (congrArg (Value.int .i64) ?_), trivial⟩⟩, trivial⟩ rfl
    all_goals (simp only [hm, lkTake, Bool.not_eq_true', Bool.not_eq_false', decide_eq_true_eq, decide_eq_false_iff_not] at *; (repeat' split) <;> first | rfl | omega)
/-- Silent, Live. -/
def lkSilentG : List AV → Option (Bool × AV)
  | [.ip [.v (.int .i64 _), .v (.int .i64 si)] 0] => some (true, i64 si)
  | _ => none
theorem lkSilent_ok : CtrOk Try.prog 33 (borCtr lkSilentG) :=
  borCtr_ok X0_ok Try.func33 (by decide) rfl fun args u h => by
    unfold lkSilentG at h
    split at h
    case h_2 => cases h
    simp only [Option.some.injEq, Prod.mk.injEq] at h
    obtain ⟨_, rfl⟩ := h
    unfold runF
    (conv => arg 1; whnf)
    exact finI rfl
def lkLiveG : List AV → Option (Bool × AV)
  | [.ip [.v (.int .i64 _), .v (.int .i64 si)] 0, .v (.int .i64 t)] => some (true, boo (decide (si ≠ -1) && decide (si < t)))
  | _ => none
theorem lkLive_ok : CtrOk Try.prog 36 (borCtr lkLiveG) :=
  borCtr_ok X0_ok Try.func36 (by decide) rfl fun args u h => by
    unfold lkLiveG at h
    split at h
    case h_2 => cases h
    simp only [Option.some.injEq, Prod.mk.injEq] at h
    obtain ⟨_, rfl⟩ := h
    unfold runF
    (conv => arg 1; whnf)
    repeat' (first | (refine brt (by assumption) ?_; (conv => arg 1; whnf)) | (refine brf (by assumption) ?_; (conv => arg 1; whnf)) | (refine br (fun h => ?_) (fun h => ?_) <;> ((conv => arg 1; whnf))))
    all_goals (refine finB ?_; simp_all)
/-- Tick. -/
def lkTickG : List AV → St → Option (Bool × AV × St)
  | [.p 0 0], [.lit [.v (.int .i64 la), .v (.int .i64 si)]] => some (true, .t [], [.lit [i64 la, i64 (if si = -1 then -1 else lim (lim si + lim 1))]])
  | _, _ => none
theorem lkTick_ok : CtrOk Try.prog 34 (localCtr lkTickG) :=
  localCtr_ok X2_ok Try.func34 (by decide) rfl fun args σ u σ' h => by
    unfold lkTickG at h
    split at h
    case h_2 => cases h
    rename_i la si
    simp only [Option.some.injEq, Prod.mk.injEq] at h
    obtain ⟨_, rfl, rfl⟩ := h
    unfold runF
    (conv => arg 1; whnf)
    repeat' (first | (refine brt (by assumption) ?_; (conv => arg 1; whnf)) | (refine brf (by assumption) ?_; (conv => arg 1; whnf)) | (refine br (fun h => ?_) (fun h => ?_) <;> ((conv => arg 1; whnf))))
    all_goals refine finS [0] (by decide) (.tl trivial) ⟨⟨_, rfl, .lit ⟨.v _, .v' (congrArg (Value.int .i64) ?_), trivial⟩⟩, trivial⟩ rfl
    all_goals simp_all
/-- The document's. -/
def rkTake (ca : Bool) (la ti q : Int) : Int × Bool × Int × Int :=
  if q < 0 ∨ 65535 < q then (1, ca, la, ti)
  else if ca = true ∧ ((q - la) % 65536 = 0 ∨ 32767 < (q - la) % 65536) then (7, ca, la, ti) else (0, true, q, 0)
def rkTakeG : List AV → St → Option (Bool × AV × St)
  | [.p 0 0, .v (.int .i64 q)], [.lit [.v (.bool ca), .v (.int .i64 la), .v (.int .i64 ti)]] => some (decide (0 ≤ la) && decide (la ≤ 65535), i64 (rkTake ca la ti q).1, [.lit [boo (rkTake ca la ti q).2.1, i64 (rkTake ca la ti q).2.2.1, i64 (rkTake ca la ti q).2.2.2]])
  | _, _ => none
theorem rkTake_ok : CtrOk Try.prog 37 (localCtr rkTakeG) :=
  localCtr_ok X0_ok Try.func37 (by decide) rfl fun args σ u σ' h => by
    unfold rkTakeG at h
    split at h
    case h_2 => cases h
    rename_i q ca la ti
    simp only [Option.some.injEq, Prod.mk.injEq, Bool.and_eq_true, decide_eq_true_eq] at h
    obtain ⟨hb, rfl, rfl⟩ := h
    unfold runF
    (conv => arg 1; whnf)
    repeat' (first | (refine brt (by assumption) ?_; (conv => arg 1; whnf)) | (refine brf (by assumption) ?_; (conv => arg 1; whnf)) | (refine br (fun h => ?_) (fun h => ?_) <;> ((conv => arg 1; whnf))))
    all_goals refine finS [0] (by decide) (.v' (congrArg (Value.int .i64) ?_)) ⟨⟨_, rfl, .lit ⟨.v' (congrArg Value.bool ?_), .v' (congrArg (Value.int .i64) ?_), .v' (congrArg (Value.int .i64) ?_), trivial⟩⟩, trivial⟩ rfl
    all_goals (cases ca <;> simp only [rkTake, IntKind.wrap_i64, decide_eq_true_eq, decide_eq_false_iff_not, reduceCtorEq, true_and, false_and, if_false, Bool.true_eq_false, Bool.false_eq_true] at * <;> (repeat' split) <;> first | rfl | omega)
def rkSilentG : List AV → Option (Bool × AV)
  | [.ip [.v (.bool ca), .v (.int .i64 _), .v (.int .i64 ti)] 0] => some (true, i64 (if ca then ti else -1))
  | _ => none
theorem rkSilent_ok : CtrOk Try.prog 35 (borCtr rkSilentG) :=
  borCtr_ok X0_ok Try.func35 (by decide) rfl fun args u h => by
    unfold rkSilentG at h
    split at h
    case h_2 => cases h
    simp only [Option.some.injEq, Prod.mk.injEq] at h
    obtain ⟨_, rfl⟩ := h
    unfold runF
    (conv => arg 1; whnf)
    repeat' (first | (refine brt (by assumption) ?_; (conv => arg 1; whnf)) | (refine brf (by assumption) ?_; (conv => arg 1; whnf)) | (refine br (fun h => ?_) (fun h => ?_) <;> ((conv => arg 1; whnf))))
    all_goals (refine finI ?_; simp_all)
end Go.Proofs.Ytohgniddfpjjfaa.E
