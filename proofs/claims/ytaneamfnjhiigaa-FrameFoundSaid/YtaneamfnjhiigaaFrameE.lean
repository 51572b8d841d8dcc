/- The contracts of frames: check sums, bytes of a frame. -/
import Derived.Test.YtaneamfnjhiigaaTypes
import Derived.Test.YtaneamfnjhiigaaEArg
import Derived.Test.YtaneamfnjhiigaaCrcMath
namespace Go.Proofs.Ytaneamfnjhiigaa.E
open Go
set_option linter.unusedSimpArgs false
set_option linter.unusedVariables false
set_option maxRecDepth 100000
set_option maxHeartbeats 4000000

def XF0 : Cx := ⟨tt, [], [], []⟩
theorem XF0_ok : CxOk Try.prog XF0 := CxOk.nil tt_ok mixed
theorem wf64 (n : Int) (h : -9223372036854775808 ≤ n) (h' : n ≤ 9223372036854775807) : IntKind.i64.wrap n = n := by rw [IntKind.wrap_i64]; omega
theorem nxt (k : Nat) (h : k < 9223372036854775807) : IntKind.i64.wrap ((k : Int) + 1) = ((k + 1 : Nat) : Int) := by rw [wf64 _ (by omega) (by omega)]; omega
abbrev au16 (n : Int) : AV := .v (.int .u16 n)

/-! ### Check sums -/
def crcK (l : List Int) (k : Nat) : BitVec 16 := crcS (l.take k)
theorem crcK_succ (l : List Int) (k : Nat) (h : k < l.length) : crcK l (k + 1) = crc1 (crcK l k) (l.getD k 0) := by
  unfold crcK crcS
  rw [List.take_succ_eq_append_getElem h, List.foldl_append]
  simp [List.getD_eq_getElem?_getD, h]
def sumG : List AV → Option (Bool × AV) := ad1 (adR eY) fun l => giv true (i64 (crc l))
theorem sum_ok : CtrOk Try.prog 22 (borCtr sumG) :=
  borCtr_can XF0_ok Try.func22 (by decide) rfl fun args u h => by
    obtain ⟨l, hf, hlen, hv⟩ := ad1_some h
    obtain ⟨_, rfl⟩ := giv_some hv
    refine ⟨_, hf, ?_⟩
    clear h hv hf
    have hlen : l.length < 281474976710656 := hlen
    unfold runF
    (conv => arg 1; whnf)
    refine loopIn (fun k : Nat => k ≤ l.length) (fun k => frm 31 [(3, au16 ((crcK l k).toNat : Nat)), (7, row eY l), (8, i64 l.length), (9, i64 k)]) (fun _ => []) (fun k => l.length - k) 0 [] (Nat.zero_le _) List.nodup_nil ?_ True.intro rfl fun k hi => ?_
    · repeat' (first | exact True.intro | exact Fit.dead _ | exact Fit.v _ | exact row_self eY l | refine And.intro ?_ ?_)
    · (conv => arg 1; whnf)
      refine br (fun hk => ?_) (fun hk => ?_)
      · have hk := of_decide_eq_true hk
        have e1 : (decide (0 ≤ (k : Int)) && decide ((k : Int) < (l.length : Int))) = true := by simp only [Bool.and_eq_true, decide_eq_true_eq]; omega
        (conv => arg 1; whnf); (repeat' (first | (refine brt (by assumption) ?_; (conv => arg 1; whnf)) | (refine brf (by assumption) ?_; (conv => arg 1; whnf)) | fail))
        refine loopIn (fun j : Nat => j ≤ 8) (fun j => frm 31 [(3, au16 ((itL j (crcK l k ^^^ (BitVec.ofInt 16 (l.getD k 0) <<< 8))).toNat : Nat)), (7, row eY l), (8, i64 l.length), (9, i64 k), (18, i64 j)]) (fun _ => []) (fun j => 8 - j) 0 [] (by decide) List.nodup_nil ?_ True.intro rfl fun j hj => ?_
        · repeat' (first | exact True.intro | exact Fit.dead _ | exact Fit.v _ | exact row_self eY l | refine And.intro ?_ ?_)
          exact Fit.v' (congrArg (Value.int .u16) (byte16 (crcK l k) (l.getD k 0)).symm)
        · (conv => arg 1; whnf)
          refine br (fun h8 => ?_) (fun h8 => ?_)
          · have h8 := of_decide_eq_true h8
            (conv => arg 1; whnf)
            refine again (j + 1) [] (by show j + 1 ≤ 8; omega) (by show 8 - (j + 1) < 8 - j; omega) List.nodup_nil ?_ True.intro rfl
            repeat' (first | exact True.intro | exact Fit.dead _ | exact row_self eY l | exact Fit.v _ | refine And.intro ?_ ?_)
            · exact Fit.v' (congrArg (Value.int .u16) (step16 (itL j (crcK l k ^^^ (BitVec.ofInt 16 (l.getD k 0) <<< 8)))).symm)
            · exact Fit.v' (congrArg (Value.int .i64) (nxt j (by omega)).symm)
          · have h8 := of_decide_eq_false h8
            obtain rfl : j = 8 := by omega
            (conv => arg 1; whnf)
            refine leave ?_
            show tr _
            (conv => arg 1; whnf)
            refine again (k + 1) [] (by show k + 1 ≤ l.length; omega) (by show l.length - (k + 1) < l.length - k; omega) List.nodup_nil ?_ True.intro rfl
            repeat' (first | exact True.intro | exact Fit.dead _ | exact row_self eY l | exact Fit.v _ | refine And.intro ?_ ?_)
            · exact Fit.v' (congrArg (Value.int .u16) (congrArg (fun z : BitVec 16 => (z.toNat : Int)) (crcK_succ l k (by omega))))
            · exact Fit.v' (congrArg (Value.int .i64) (nxt k (by omega)).symm)
      · have hk := of_decide_eq_false hk
        obtain rfl : k = l.length := by omega
        (conv => arg 1; whnf)
        refine leave ?_
        show tr _
        (conv => arg 1; whnf)
        refine finI ?_
        have hb := (crcK l l.length).isLt
        rw [wf64 _ (by omega) (by omega)]
        unfold crc crcK
        rw [List.take_length]
/-- Bytes. -/
def bytesOk (l : List Int) : Bool := l.all fun c => decide (0 ≤ c) && decide (c < 256)
theorem bytesOk_get {l : List Int} (h : bytesOk l = true) (k : Nat) : 0 ≤ l.getD k 0 ∧ l.getD k 0 < 256 := by
  rw [List.getD_eq_getElem?_getD]
  rcases Nat.lt_or_ge k l.length with hk | hk
  · rw [List.getElem?_eq_getElem hk]
    have := List.all_eq_true.1 h _ (List.getElem_mem hk)
    simpa using this
  · rw [List.getElem?_eq_none hk]; decide
def rsumG : List AV → Option (Bool × AV) := ad1 (adR eY) fun l => giv (bytesOk l) (i64 (crc l))
theorem rsum_ok : CtrOk Try.prog 25 (borCtr rsumG) :=
  borCtr_can XF0_ok Try.func25 (by decide) rfl fun args u h => by
    obtain ⟨l, hf, hlen, hv⟩ := ad1_some h
    obtain ⟨hby, rfl⟩ := giv_some hv
    refine ⟨_, hf, ?_⟩
    clear h hv hf
    have hlen : l.length < 281474976710656 := hlen
    unfold runF
    (conv => arg 1; whnf)
    refine loopIn (fun k : Nat => k ≤ l.length) (fun k => frm 32 [(0, row eY l), (3, i64 ((crcK l k).toNat : Nat)), (4, i64 k)]) (fun _ => []) (fun k => l.length - k) 0 [] (Nat.zero_le _) List.nodup_nil ?_ True.intro rfl fun k hi => ?_
    · repeat' (first | exact True.intro | exact Fit.dead _ | exact Fit.v _ | exact row_self eY l | refine And.intro ?_ ?_)
    · (conv => arg 1; whnf)
      refine br (fun hk => ?_) (fun hk => ?_)
      · have hk := of_decide_eq_true hk
        have e1 : (decide (0 ≤ (k : Int)) && decide ((k : Int) < (l.length : Int))) = true := by simp only [Bool.and_eq_true, decide_eq_true_eq]; omega
        obtain ⟨c0, c1⟩ := bytesOk_get hby k
        (conv => arg 1; whnf); (repeat' (first | (refine brt (by assumption) ?_; (conv => arg 1; whnf)) | (refine brf (by assumption) ?_; (conv => arg 1; whnf)) | fail))
        refine loopIn (fun j : Nat => j ≤ 8) (fun j => frm 32 [(0, row eY l), (3, i64 ((itL j (crcK l k ^^^ (BitVec.ofInt 16 (l.getD k 0) <<< 8))).toNat : Nat)), (4, i64 k), (5, i64 j)]) (fun _ => []) (fun j => 8 - j) 0 [] (by decide) List.nodup_nil ?_ True.intro rfl fun j hj => ?_
        · repeat' (first | exact True.intro | exact Fit.dead _ | exact Fit.v _ | exact row_self eY l | refine And.intro ?_ ?_)
          exact Fit.v' (congrArg (Value.int .i64) (rbyte16 (crcK l k) (l.getD k 0) c0 c1).symm)
        · (conv => arg 1; whnf)
          refine br (fun h8 => ?_) (fun h8 => ?_)
          · have h8 := of_decide_eq_true h8
            have st := rstep16 (itL j (crcK l k ^^^ (BitVec.ofInt 16 (l.getD k 0) <<< 8)))
            (conv => arg 1; whnf)
            refine br (fun h9 => ?_) (fun h9 => ?_)
            · rw [if_pos (of_decide_eq_true h9)] at st
              (conv => arg 1; whnf)
              refine again (j + 1) [] (by show j + 1 ≤ 8; omega) (by show 8 - (j + 1) < 8 - j; omega) List.nodup_nil ?_ True.intro rfl
              repeat' (first | exact True.intro | exact Fit.dead _ | exact row_self eY l | exact Fit.v _ | refine And.intro ?_ ?_)
              · exact Fit.v' (congrArg (Value.int .i64) st.symm)
              · exact Fit.v' (congrArg (Value.int .i64) (nxt j (by omega)).symm)
            · rw [if_neg (of_decide_eq_false h9)] at st
              (conv => arg 1; whnf)
              refine again (j + 1) [] (by show j + 1 ≤ 8; omega) (by show 8 - (j + 1) < 8 - j; omega) List.nodup_nil ?_ True.intro rfl
              repeat' (first | exact True.intro | exact Fit.dead _ | exact row_self eY l | exact Fit.v _ | refine And.intro ?_ ?_)
              · exact Fit.v' (congrArg (Value.int .i64) st.symm)
              · exact Fit.v' (congrArg (Value.int .i64) (nxt j (by omega)).symm)
          · have h8 := of_decide_eq_false h8
            obtain rfl : j = 8 := by omega
            (conv => arg 1; whnf)
            refine leave ?_
            show tr _
            (conv => arg 1; whnf)
            refine again (k + 1) [] (by show k + 1 ≤ l.length; omega) (by show l.length - (k + 1) < l.length - k; omega) List.nodup_nil ?_ True.intro rfl
            repeat' (first | exact True.intro | exact Fit.dead _ | exact row_self eY l | exact Fit.v _ | refine And.intro ?_ ?_)
            · exact Fit.v' (congrArg (Value.int .i64) (congrArg (fun z : BitVec 16 => (z.toNat : Int)) (crcK_succ l k (by omega))))
            · exact Fit.v' (congrArg (Value.int .i64) (nxt k (by omega)).symm)
      · have hk := of_decide_eq_false hk
        obtain rfl : k = l.length := by omega
        (conv => arg 1; whnf)
        refine leave ?_
        show tr _
        (conv => arg 1; whnf)
        refine finI ?_
        unfold crc crcK
        rw [List.take_length]
/-! ### Numbers in their ranges -/
def kindG : List AV → Option (Bool × AV) := fn1 dI fun n => giv true (boo (decide (1 ≤ n) && decide (n ≤ 3)))
theorem kind_ok : CtrOk Try.prog 41 (pureCtr kindG) :=
  pureCtr_ok XF0_ok Try.func41 (by decide) rfl fun args u h => by
    obtain ⟨n, rfl, h⟩ := fn1_some h
    obtain ⟨_, rfl⟩ := giv_some h
    refine ⟨rfl, rfl, ?_⟩
    clear h
    unfold runF
    (conv => arg 1; whnf)
    repeat' (first | (refine brt (by assumption) ?_; (conv => arg 1; whnf)) | (refine brf (by assumption) ?_; (conv => arg 1; whnf)) | (refine br (fun h => ?_) (fun h => ?_) <;> ((conv => arg 1; whnf))))
    all_goals (refine finB ?_; simp_all)
    all_goals (try (intros; omega))
def fitsL (m : Int) (l : List Int) : Bool := l.all fun n => decide (0 ≤ n) && decide (n ≤ m)
noncomputable def XF1 : Cx := XF0.addRun 50 (runFn XF0 Try.f50 (bodyOf Try.f50))
theorem XF1_ok : CxOk Try.prog XF1 := XF0_ok.addRun (runFn_ok XF0_ok Try.func50 (by decide) rfl)
noncomputable def XF2 : Cx := XF0.addRun 52 (runFn XF1 Try.f52 (bodyOf Try.f52))
theorem XF2_ok : CxOk Try.prog XF2 := XF0_ok.addRun (runFn_ok XF1_ok Try.func52 (by decide) rfl)
noncomputable def XF3 : Cx := XF0.addRun 49 (runFn XF2 Try.f49 (bodyOf Try.f49))
theorem XF3_ok : CxOk Try.prog XF3 := XF0_ok.addRun (runFn_ok XF2_ok Try.func49 (by decide) rfl)
def fitsG : List AV → Option (Bool × AV) := ad2 adI (adR eI) fun m l => giv true (boo (fitsL m l))
theorem fits_ok : CtrOk Try.prog 42 (borCtr fitsG) :=
  borCtr_can XF3_ok Try.func42 (by decide) rfl fun args u h => by
    obtain ⟨m, l, hf, _, hlen, hv⟩ := ad2_some h
    obtain ⟨_, rfl⟩ := giv_some hv
    refine ⟨_, hf, ?_⟩
    clear h hv hf
    have hlen : l.length < 281474976710656 := hlen
    unfold runF
    (conv => arg 1; whnf)
    refine loopIn (fun k : Nat => k ≤ l.length ∧ ∀ j, j < k → 0 ≤ l.getD j 0 ∧ l.getD j 0 ≤ m) (fun k => frm 19 [(0, row eI l), (1, .f (.func 50) [] [.p 0 0]), (7, i64 l.length), (8, i64 k)]) (fun _ => [.lit [i64 m]]) (fun k => l.length - k) 0 [0] ⟨Nat.zero_le _, fun j hj => by omega⟩ (by decide) ?_ ?_ rfl fun k hi => ?_
    · repeat' (first | exact True.intro | exact Fit.dead _ | exact Fit.v _ | exact row_self eI l | exact .p rfl | refine Fit.fl ?_ ?_ | refine And.intro ?_ ?_)
    · exact ⟨⟨_, rfl, .lit ⟨.v _, trivial⟩⟩, trivial⟩
    · obtain ⟨hk, hall⟩ := hi
      have bad : ∀ j, j < l.length → ¬ (0 ≤ l.getD j 0 ∧ l.getD j 0 ≤ m) → fitsL m l = false := fun j hj hn => by
        rw [Bool.eq_false_iff]
        intro hh
        refine hn ?_
        have := List.all_eq_true.1 hh (l.getD j 0) (by rw [List.getD_eq_getElem?_getD, List.getElem?_eq_getElem hj]; exact List.getElem_mem hj)
        simpa using this
      (conv => arg 1; whnf)
      refine br (fun h => ?_) (fun h => ?_)
      · have h := of_decide_eq_true h
        have e1 : (decide (0 ≤ (k : Int)) && decide ((k : Int) < (l.length : Int))) = true := by simp only [Bool.and_eq_true, decide_eq_true_eq]; omega
        have e2 : decide (0 ≤ (k : Int)) = true := decide_eq_true (by omega)
        (conv => arg 1; whnf); (repeat' (first | (refine brt (by assumption) ?_; (conv => arg 1; whnf)) | (refine brf (by assumption) ?_; (conv => arg 1; whnf)) | fail))
        refine br (fun h1 => ?_) (fun h1 => ?_)
        · have h1 := of_decide_eq_true h1
          (conv => arg 1; whnf); (repeat' (first | (refine brt (by assumption) ?_; (conv => arg 1; whnf)) | (refine brf (by assumption) ?_; (conv => arg 1; whnf)) | fail))
          refine leaveRet ?_
          show tr _
          (conv => arg 1; whnf); (repeat' (first | (refine brt (by assumption) ?_; (conv => arg 1; whnf)) | (refine brf (by assumption) ?_; (conv => arg 1; whnf)) | fail))
          refine finB ?_
          rw [bad k (by omega) (by intro hh; have := hh.1; have h2 : l.getD k 0 < 0 := h1; omega), e2]; rfl
        · (conv => arg 1; whnf); (repeat' (first | (refine brt (by assumption) ?_; (conv => arg 1; whnf)) | (refine brf (by assumption) ?_; (conv => arg 1; whnf)) | fail))
          refine br (fun h2 => ?_) (fun h2 => ?_)
          · (conv => arg 1; whnf); (repeat' (first | (refine brt (by assumption) ?_; (conv => arg 1; whnf)) | (refine brf (by assumption) ?_; (conv => arg 1; whnf)) | fail))
            refine leaveRet ?_
            show tr _
            (conv => arg 1; whnf); (repeat' (first | (refine brt (by assumption) ?_; (conv => arg 1; whnf)) | (refine brf (by assumption) ?_; (conv => arg 1; whnf)) | fail))
            refine finB ?_
            rw [bad k (by omega) (by intro hh; have := hh.2; have h3 : m < l.getD k 0 := of_decide_eq_true h2; omega), e2]; rfl
          · (conv => arg 1; whnf); (repeat' (first | (refine brt (by assumption) ?_; (conv => arg 1; whnf)) | (refine brf (by assumption) ?_; (conv => arg 1; whnf)) | fail))
            refine again (k + 1) [0] ⟨by omega, fun j hj => ?_⟩ (by omega) (by decide) ?_ ⟨⟨_, rfl, .lit ⟨.v _, trivial⟩⟩, trivial⟩ rfl
            · rcases Nat.lt_or_ge j k with g | g
              · exact hall j g
              · obtain rfl : j = k := by omega
                have h3 : ¬ l.getD j 0 < 0 := of_decide_eq_false h1
                have h4 : ¬ m < l.getD j 0 := of_decide_eq_false h2
                omega
            · repeat' (first | exact True.intro | exact Fit.dead _ | exact Fit.v _ | exact row_self eI l | exact .p rfl | refine Fit.fl ?_ ?_ | refine And.intro ?_ ?_)
              exact Fit.v' (congrArg (Value.int .i64) (nxt k (by omega)).symm)
      · have h := of_decide_eq_false h
        (conv => arg 1; whnf)
        refine leave ?_
        show tr _
        (conv => arg 1; whnf)
        refine finB ?_
        show fitsL m l = !decide (0 ≤ (-1 : Int))
        have : fitsL m l = true := List.all_eq_true.2 fun x hx => by
          obtain ⟨j, hj, rfl⟩ := List.getElem_of_mem hx
          have := hall j (by omega)
          rw [List.getD_eq_getElem?_getD, List.getElem?_eq_getElem hj] at this
          simpa using this
        rw [this]; rfl
end Go.Proofs.Ytaneamfnjhiigaa.E
