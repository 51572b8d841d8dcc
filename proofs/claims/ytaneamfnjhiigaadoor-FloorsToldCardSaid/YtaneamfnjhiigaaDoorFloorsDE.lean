/- Sets of floors: how many there are; one floor more, or less. -/
import Derived.Test.YtaneamfnjhiigaaDoorFloorsCE
import Derived.Test.YtaneamfnjhiigaaDoorFloorsOnes
import Derived.Test.YtaneamfnjhiigaaDoorBitsE
namespace Go.Proofs.YtaneamfnjhiigaaDoor.E
open Go
set_option linter.unusedSimpArgs false
set_option linter.unusedVariables false
set_option maxRecDepth 100000
set_option maxHeartbeats 4000000
noncomputable def lenF (x : Int) : Int := sealed (cntB 64 x.toNat : Int)
theorem lenF_eq (x : Int) : lenF x = (cntB 64 x.toNat : Int) := sealed_eq _
noncomputable def ocG : List AV → Option (Bool × AV) := fn1 dU fun x => giv (decide (0 ≤ x) && decide (x < 18446744073709551616)) (i64 (lenF x))
theorem andN (a b : Nat) (ha : a < 18446744073709551616) (hb : b < 18446744073709551616) : bits .and .u64 (a : Int) (b : Int) = ((a &&& b : Nat) : Int) := by
  have hd : bits .and .u64 (a : Int) (b : Int) = IntKind.u64.wrap ((BitVec.ofInt 64 (a : Int) &&& BitVec.ofInt 64 (b : Int)).toNat : Int) := rfl
  rw [hd, BitVec.toNat_and, BitVec.toNat_ofInt, BitVec.toNat_ofInt, wrapU]
  have e1 : ((a : Int) % ((2 ^ 64 : Nat) : Int)).toNat = a := by omega
  have e2 : ((b : Int) % ((2 ^ 64 : Nat) : Int)).toNat = b := by omega
  rw [e1, e2]
  have := @Nat.and_le_left a b
  omega
theorem wrapN {a : Nat} (ha : a < 18446744073709551616) : IntKind.u64.wrap (a : Int) = (a : Int) := by rw [wrapU]; omega
theorem oc1 (n : Nat) (hn : n < 18446744073709551616) : IntKind.u64.wrap (bits .and .u64 ((n : Int).fdiv (2 ^ min (Int.toNat 1) IntKind.u64.bits)) 6148914691236517205 + bits .and .u64 (n : Int) 6148914691236517205) = ((o1 (msk 85 8) n : Nat) : Int) := by
  have em : msk 85 8 = 6148914691236517205 := by decide
  rw [show (2 : Int) ^ min (Int.toNat 1) IntKind.u64.bits = ((2 : Nat) : Int) by decide, Int.fdiv_eq_ediv_of_nonneg _ (by decide), ← Int.natCast_ediv]
  rw [show (6148914691236517205 : Int) = ((6148914691236517205 : Nat) : Int) from rfl, andN _ _ (by omega) (by decide), andN _ _ hn (by decide), ← Int.natCast_add, em]
  have h1 := @Nat.and_le_right (n / 2) 6148914691236517205
  have h2 := @Nat.and_le_right n 6148914691236517205
  exact wrapN (by omega)
theorem oc2 (n : Nat) (hn : n < 18446744073709551616) : IntKind.u64.wrap (bits .and .u64 ((n : Int).fdiv (2 ^ min (Int.toNat 2) IntKind.u64.bits)) 3689348814741910323 + bits .and .u64 (n : Int) 3689348814741910323) = ((o2 (msk 51 8) n : Nat) : Int) := by
  have em : msk 51 8 = 3689348814741910323 := by decide
  rw [show (2 : Int) ^ min (Int.toNat 2) IntKind.u64.bits = ((4 : Nat) : Int) by decide, Int.fdiv_eq_ediv_of_nonneg _ (by decide), ← Int.natCast_ediv]
  rw [show (3689348814741910323 : Int) = ((3689348814741910323 : Nat) : Int) from rfl, andN _ _ (by omega) (by decide), andN _ _ hn (by decide), ← Int.natCast_add, em]
  have h1 := @Nat.and_le_right (n / 4) 3689348814741910323
  have h2 := @Nat.and_le_right n 3689348814741910323
  exact wrapN (by omega)
theorem oc3 (n : Nat) (hn : n ≤ 7378697629483820646) : bits .and .u64 (IntKind.u64.wrap ((n : Int).fdiv (2 ^ min (Int.toNat 4) IntKind.u64.bits) + (n : Int))) 1085102592571150095 = ((o3 (msk 15 8) n : Nat) : Int) := by
  have em : msk 15 8 = 1085102592571150095 := by decide
  rw [show (2 : Int) ^ min (Int.toNat 4) IntKind.u64.bits = ((16 : Nat) : Int) by decide, Int.fdiv_eq_ediv_of_nonneg _ (by decide), ← Int.natCast_ediv]
  rw [show (1085102592571150095 : Int) = ((1085102592571150095 : Nat) : Int) from rfl, ← Int.natCast_add, wrapN (by omega), andN _ _ (by omega) (by decide), em]
  rfl
theorem ocS (k d n : Nat) (hd : (2 : Int) ^ min k IntKind.u64.bits = ((d : Nat) : Int)) (h : n + n / d < 18446744073709551616) : IntKind.u64.wrap ((n : Int) + (n : Int).fdiv (2 ^ min k IntKind.u64.bits)) = ((n + n / d : Nat) : Int) := by
  rw [hd, Int.fdiv_eq_ediv_of_nonneg _ (by omega), ← Int.natCast_ediv, ← Int.natCast_add]
  exact wrapN h
theorem ocE (s : Nat) (h : s < 18446744073709551616) : ((s % 128 : Nat) : Int) = (((s : Int) + 2 ^ 63) % 2 ^ 64 - 2 ^ 63) % 128 := by omega
theorem oc_ok : CtrOk Tryd.prog 27 (pureCtr ocG) :=
  pureCtr_ok XF0_ok Tryd.func27 (by decide) rfl fun args u h => by
    obtain ⟨x, rfl, h⟩ := fn1_some h
    obtain ⟨hx, rfl⟩ := giv_some h
    simp only [Bool.and_eq_true, decide_eq_true_eq] at hx
    refine ⟨rfl, rfl, ?_⟩
    clear h
    obtain ⟨n, rfl⟩ : ∃ n : Nat, x = (n : Int) := ⟨x.toNat, by omega⟩
    have hn : n < 18446744073709551616 := by omega
    unfold runF
    (conv => arg 1; whnf)
    refine fin0 (Fit.v' (congrArg (Value.int .i64) ?_))
    have b1 : o1 (msk 85 8) n < 18446744073709551616 := by
      have em : msk 85 8 = 6148914691236517205 := by decide
      have h1 := @Nat.and_le_right (n / 2) 6148914691236517205
      have h2 := @Nat.and_le_right n 6148914691236517205
      unfold o1; rw [em]; omega
    have b2 : o2 (msk 51 8) (o1 (msk 85 8) n) ≤ 7378697629483820646 := by
      have em : msk 51 8 = 3689348814741910323 := by decide
      have h1 := @Nat.and_le_right (o1 (msk 85 8) n / 4) 3689348814741910323
      have h2 := @Nat.and_le_right (o1 (msk 85 8) n) 3689348814741910323
      unfold o2; rw [em]; omega
    obtain ⟨e1, e2, e3, e4⟩ := sums_end n
    rw [oc1 n hn, oc2 _ b1, oc3 _ b2, o_all, ocS _ 256 _ (by decide) e1, ocS _ 65536 _ (by decide) e2, ocS _ 4294967296 _ (by decide) e3, and127, IntKind.wrap_i64]
    rw [lenF_eq, Int.toNat_natCast, ← e4]
    clear b1 b2 e1 e2 e4
    generalize sums 8 n + sums 8 n / 256 + (sums 8 n + sums 8 n / 256) / 65536 + (sums 8 n + sums 8 n / 256 + (sums 8 n + sums 8 n / 256) / 65536) / 4294967296 = s at e3 ⊢
    exact ocE s e3
/-! ### Floors -/
def bitG : List AV → Option (Bool × AV) := fn1 dI fun f => giv true (u64 (bitS f))
theorem bit_ok : CtrOk Tryd.prog 26 (pureCtr bitG) :=
  pureCtr_ok XF0_ok Tryd.func26 (by decide) rfl fun args u h => by
    obtain ⟨f, rfl, h⟩ := fn1_some h
    obtain ⟨_, rfl⟩ := giv_some h
    refine ⟨rfl, rfl, ?_⟩
    clear h
    unfold runF
    (conv => arg 1; whnf)
    refine br (fun h1 => ?_) (fun h1 => ?_)
    · (conv => arg 1; whnf); (repeat' (first | (refine brt (by assumption) ?_; (conv => arg 1; whnf)) | (refine brf (by assumption) ?_; (conv => arg 1; whnf)) | fail))
      refine finU ?_
      unfold bitS; rw [h1]; rfl
    · have h0 : decide (0 ≤ f) = true := decide_eq_true (by have := of_decide_eq_false h1; omega)
      (conv => arg 1; whnf); (repeat' (first | (refine brt (by assumption) ?_; (conv => arg 1; whnf)) | (refine brf (by assumption) ?_; (conv => arg 1; whnf)) | fail))
      refine br (fun h2 => ?_) (fun h2 => ?_)
      · (conv => arg 1; whnf); (repeat' (first | (refine brt (by assumption) ?_; (conv => arg 1; whnf)) | (refine brf (by assumption) ?_; (conv => arg 1; whnf)) | fail))
        refine finU ?_
        unfold bitS; rw [h1, h2]; rfl
      · (conv => arg 1; whnf); (repeat' (first | (refine brt (by assumption) ?_; (conv => arg 1; whnf)) | (refine brf (by assumption) ?_; (conv => arg 1; whnf)) | fail))
        refine finU ?_
        unfold bitS; rw [h1, h2]; rfl
def XF1 : Cx := XF0.add 26 .pure (pureCtr bitG)
theorem XF1_ok : CxOk Tryd.prog XF1 := XF0_ok.pure bit_ok
def hasG : List AV → Option (Bool × AV) := fn2 dU dI fun b f => giv true (boo (hasF b f))
theorem has_ok : CtrOk Tryd.prog 17 (pureCtr hasG) :=
  pureCtr_ok XF1_ok Tryd.func17 (by decide) rfl fun args u h => by
    obtain ⟨b, f, rfl, h⟩ := fn2_some h
    obtain ⟨_, rfl⟩ := giv_some h
    refine ⟨rfl, rfl, ?_⟩
    clear h
    unfold runF
    (conv => arg 1; whnf)
    exact finB rfl
def withG : List AV → Option (Bool × AV) := fn2 dU dI fun b f => giv true (u64 (withF b f))
theorem with_ok : CtrOk Tryd.prog 18 (pureCtr withG) :=
  pureCtr_ok XF1_ok Tryd.func18 (by decide) rfl fun args u h => by
    obtain ⟨b, f, rfl, h⟩ := fn2_some h
    obtain ⟨_, rfl⟩ := giv_some h
    refine ⟨rfl, rfl, ?_⟩
    clear h
    unfold runF
    (conv => arg 1; whnf)
    exact finU rfl
def woutG : List AV → Option (Bool × AV) := fn2 dU dI fun b f => giv true (u64 (woutF b f))
theorem wout_ok : CtrOk Tryd.prog 19 (pureCtr woutG) :=
  pureCtr_ok XF1_ok Tryd.func19 (by decide) rfl fun args u h => by
    obtain ⟨b, f, rfl, h⟩ := fn2_some h
    obtain ⟨_, rfl⟩ := giv_some h
    refine ⟨rfl, rfl, ?_⟩
    clear h
    unfold runF
    (conv => arg 1; whnf)
    exact finU rfl
noncomputable def XF2 : Cx := XF0.add 27 .pure (pureCtr ocG)
theorem XF2_ok : CxOk Tryd.prog XF2 := XF0_ok.pure oc_ok
theorem flen_ok : CtrOk Tryd.prog 16 (pureCtr ocG) :=
  pureCtr_ok XF2_ok Tryd.func16 (by decide) rfl fun args u h => by
    obtain ⟨x, rfl, h⟩ := fn1_some h
    obtain ⟨hx, rfl⟩ := giv_some h
    refine ⟨rfl, rfl, ?_⟩
    clear h
    unfold runF
    (conv => arg 1; whnf); (repeat' (first | (refine brt (by assumption) ?_; (conv => arg 1; whnf)) | (refine brf (by assumption) ?_; (conv => arg 1; whnf)) | fail))
    exact finI rfl
/-- The set of these floors. -/
def setOf (l : List Int) : Int := l.foldl (fun s f => withF s f) 0
theorem take_snoc {α : Type} {l : List α} {k : Nat} {d : α} (h : k < l.length) : l.take (k + 1) = l.take k ++ [l.getD k d] := by
  rw [List.take_succ_eq_append_getElem h, List.getD_eq_getElem?_getD, List.getElem?_eq_getElem h]; rfl
theorem nxt (k : Nat) (h : k ≤ 1000000000) : IntKind.i64.wrap ((k : Int) + 1) = ((k + 1 : Nat) : Int) := by rw [wrap_i64' _ (by omega) (by omega)]; omega
def ofG : List AV → Option (Bool × AV) := ad1 (adR eI) fun l => giv (decide (l.length ≤ 1000000)) (u64 (setOf l))
theorem of_ok : CtrOk Tryd.prog 13 (borCtr ofG) :=
  borCtr_can XF1_ok Tryd.func13 (by decide) rfl fun args u h => by
    obtain ⟨l, hf, hl, hv⟩ := ad1_some h
    obtain ⟨hlen, rfl⟩ := giv_some hv
    have hlen := of_decide_eq_true hlen
    refine ⟨_, hf, ?_⟩
    clear h hv hf
    unfold runF
    (conv => arg 1; whnf)
    refine loopM [2, 5, 6, 7] (fun k : Nat => k ≤ l.length) (fun k => [(2, u64 (setOf (l.take k))), (7, i64 k)]) (fun _ => []) (fun k => l.length - k) 0 (Nat.zero_le _) rfl ?_ ?_ fun k hk => ?_
    · repeat' (first | exact True.intro | exact Fit.dead _ | exact Fit.v _ | exact .i fun _ _ => rfl | exact Fit.ip | exact .p rfl | exact .q rfl | exact .s rfl | exact .y rfl | exact Fit.z | exact ⟨_, rfl, .gone _⟩ | exact ⟨_, rfl, .lrec _⟩ | exact ⟨_, rfl, .held⟩ | exact ⟨_, rfl, .tab fun _ _ => rfl⟩ | refine Fit.al ?_ | refine Fit.fl ?_ ?_ | refine ⟨_, rfl, .lit ?_⟩ | refine And.intro ?_ ?_)
    · repeat' (first | exact True.intro | exact Fit.dead _ | exact Fit.v _ | exact .i fun _ _ => rfl | exact Fit.ip | exact .p rfl | exact .q rfl | exact .s rfl | exact .y rfl | exact Fit.z | exact ⟨_, rfl, .gone _⟩ | exact ⟨_, rfl, .lrec _⟩ | exact ⟨_, rfl, .held⟩ | exact ⟨_, rfl, .tab fun _ _ => rfl⟩ | refine Fit.al ?_ | refine Fit.fl ?_ ?_ | refine ⟨_, rfl, .lit ?_⟩ | refine And.intro ?_ ?_)
    · have hk : k ≤ l.length := hk
      (conv => arg 1; whnf)
      refine br (fun h => ?_) (fun h => ?_)
      · have hlt : k < l.length := by have := of_decide_eq_true h; omega
        have e1 : (decide (0 ≤ (k : Int)) && decide ((k : Int) < (l.length : Int))) = true := by simp only [Bool.and_eq_true, decide_eq_true_eq]; omega
        have ek : (k : Int).toNat = k := by omega
        (conv => arg 1; whnf); (repeat' (first | (refine brt (by assumption) ?_; (conv => arg 1; whnf)) | (refine brf (by assumption) ?_; (conv => arg 1; whnf)) | fail))
        refine again (k + 1) [] hlt (by show l.length - (k + 1) < l.length - k; omega) (by decide) ?_ ?_ rfl
        · repeat' (first | exact True.intro | exact Fit.dead _ | exact Fit.v _ | exact row_self eI _ | exact Fit.v' (congrArg (Value.int .i64) (nxt k (by omega)).symm) | refine And.intro ?_ ?_)
          refine Fit.v' (congrArg (Value.int .u64) ?_)
          rw [take_snoc (d := 0) hlt]
          unfold setOf
          rw [List.foldl_append]
          show withF (setOf (l.take k)) (l.getD k 0) = bits .or .u64 (setOf (l.take k)) (bitS (l.getD (k : Int).toNat 0))
          rw [ek]; rfl
        · repeat' (first | exact True.intro | exact Fit.dead _ | exact Fit.v _ | exact .i fun _ _ => rfl | exact Fit.ip | exact .p rfl | exact .q rfl | exact .s rfl | exact .y rfl | exact Fit.z | exact ⟨_, rfl, .gone _⟩ | exact ⟨_, rfl, .lrec _⟩ | exact ⟨_, rfl, .held⟩ | exact ⟨_, rfl, .tab fun _ _ => rfl⟩ | refine Fit.al ?_ | refine Fit.fl ?_ ?_ | refine ⟨_, rfl, .lit ?_⟩ | refine And.intro ?_ ?_)
      · have hkl : k = l.length := by have := of_decide_eq_false h; omega
        (conv => arg 1; whnf); (repeat' (first | (refine brt (by assumption) ?_; (conv => arg 1; whnf)) | (refine brf (by assumption) ?_; (conv => arg 1; whnf)) | fail))
        refine leave ?_
        show tr _
        (conv => arg 1; whnf); (repeat' (first | (refine brt (by assumption) ?_; (conv => arg 1; whnf)) | (refine brf (by assumption) ?_; (conv => arg 1; whnf)) | fail))
        refine finU ?_
        rw [hkl, List.take_length]
end Go.Proofs.YtaneamfnjhiigaaDoor.E
