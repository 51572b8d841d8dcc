/- The contracts of frames: bytes as a frame, by the program and by the document; texts of bytes. -/
import Derived.Test.YtaneamfnjhiigaaFrameEncE
import Derived.Laws.Strings
namespace Go.Proofs.Ytaneamfnjhiigaa.E
open Go
set_option linter.unusedSimpArgs false
set_option linter.unusedVariables false
set_option maxRecDepth 100000
set_option maxHeartbeats 4000000

/-! ### Rows of bytes that are one -/
def eqG : List AV → Option (Bool × AV) := ad2 (adR eY) (adR eY) fun a b => giv true (boo (decide (a = b)))
theorem getD_ext {a b : List Int} (h : a.length = b.length) (hg : ∀ j, j < a.length → a.getD j 0 = b.getD j 0) : a = b := by
  apply List.ext_getElem h
  intro i h1 h2
  have := hg i h1
  rw [List.getD_eq_getElem?_getD, List.getD_eq_getElem?_getD, List.getElem?_eq_getElem h1, List.getElem?_eq_getElem h2] at this
  exact this
theorem eq_ok : CtrOk Try.prog 39 (borCtr eqG) :=
  borCtr_can XF0_ok Try.func39 (by decide) rfl fun args u h => by
    obtain ⟨a, b, hf, ha, hb, hv⟩ := ad2_some h
    obtain ⟨_, rfl⟩ := giv_some hv
    refine ⟨_, hf, ?_⟩
    clear h hv hf
    have ha : a.length < 281474976710656 := ha
    have hb : b.length < 281474976710656 := hb
    unfold runF
    (conv => arg 1; whnf)
    refine br (fun h => ?_) (fun h => ?_)
    · (conv => arg 1; whnf)
      refine finB (decide_eq_false fun e => ?_)
      rw [e] at h
      simp at h
    · have hl : a.length = b.length := by
        have h' : (!decide ((a.length : Int) = (b.length : Int))) = false := h
        simp at h'
        omega
      (conv => arg 1; whnf)
      refine loopIn (fun k : Nat => k ≤ a.length ∧ ∀ j, j < k → a.getD j 0 = b.getD j 0) (fun k => frm 26 [(0, row eY a), (1, row eY b), (12, i64 a.length), (13, i64 k)]) (fun _ => []) (fun k => a.length - k) 0 [] ⟨Nat.zero_le _, fun j hj => by omega⟩ List.nodup_nil ?_ True.intro rfl fun k hi => ?_
      · repeat' (first | exact True.intro | exact Fit.dead _ | exact Fit.v _ | exact row_self eY _ | refine And.intro ?_ ?_)
      · obtain ⟨hk, hall⟩ := hi
        (conv => arg 1; whnf)
        refine br (fun h => ?_) (fun h => ?_)
        · have h : (k : Int) < (a.length : Int) := of_decide_eq_true h
          have e1 : (decide (0 ≤ (k : Int)) && decide ((k : Int) < (a.length : Int))) = true := by simp only [Bool.and_eq_true, decide_eq_true_eq]; omega
          have e2 : (decide (0 ≤ (k : Int)) && decide ((k : Int) < (b.length : Int))) = true := by simp only [Bool.and_eq_true, decide_eq_true_eq]; omega
          (conv => arg 1; whnf); (repeat' (first | (refine brt (by assumption) ?_; (conv => arg 1; whnf)) | (refine brf (by assumption) ?_; (conv => arg 1; whnf)) | fail))
          refine br (fun h1 => ?_) (fun h1 => ?_)
          · have h1 : (!decide (a.getD k 0 = b.getD k 0)) = true := h1
            (conv => arg 1; whnf)
            refine leaveRet ?_
            show tr _
            (conv => arg 1; whnf)
            refine finB (decide_eq_false fun e => ?_)
            rw [e] at h1
            simp at h1
          · have h1 : (!decide (a.getD k 0 = b.getD k 0)) = false := h1
            (conv => arg 1; whnf)
            refine again (k + 1) [] ⟨by omega, fun j hj => ?_⟩ (by omega) List.nodup_nil ?_ True.intro rfl
            · rcases Nat.lt_or_ge j k with g | g
              · exact hall j g
              · obtain rfl : j = k := by omega
                simpa using h1
            · repeat' (first | exact True.intro | exact Fit.dead _ | exact Fit.v _ | exact row_self eY _ | refine And.intro ?_ ?_)
              exact Fit.v' (congrArg (Value.int .i64) (nxt k (by omega)).symm)
        · have h : ¬ (k : Int) < (a.length : Int) := of_decide_eq_false h
          (conv => arg 1; whnf)
          refine leave ?_
          show tr _
          (conv => arg 1; whnf)
          exact finB (decide_eq_true (getD_ext hl fun j hj => hall j (by omega)))
/-! ### Texts of bytes -/
theorem strB_data (l : List Int) : (strB l).data.toList = l.map fun n => UInt8.ofNat n.toNat := by
  have : ∀ (l : List Int) (r : ByteArray), (l.foldl (fun r n => r.push (UInt8.ofNat n.toNat)) r).data.toList = r.data.toList ++ l.map fun n => UInt8.ofNat n.toNat := fun l => by
    induction l with
    | nil => intro r; simp
    | cons a l ih => intro r; rw [List.foldl_cons, ih]; simp
  unfold strB
  rw [this]
  rfl
theorem strB_eq {a b : List Int} (ha : bytesOk a = true) (hb : bytesOk b = true) : ((strB a).toList == (strB b).toList) = decide (a = b) := by
  rw [ByteArray.toList_eq, ByteArray.toList_eq, strB_data, strB_data]
  by_cases h : a = b
  · rw [h]; simp
  · rw [decide_eq_false h, beq_eq_false_iff_ne]
    intro e
    apply h
    have inj : ∀ (a b : List Int), bytesOk a = true → bytesOk b = true → (a.map fun n => UInt8.ofNat n.toNat) = (b.map fun n => UInt8.ofNat n.toNat) → a = b := fun a => by
      induction a with
      | nil =>
        intro b _ _ e
        cases b with
        | nil => rfl
        | cons => simp at e
      | cons x a ih =>
        intro b ha hb e
        cases b with
        | nil => simp at e
        | cons y b =>
          simp only [List.map_cons, List.cons.injEq] at e
          simp only [bytesOk, List.all_cons, Bool.and_eq_true, decide_eq_true_eq] at ha hb
          have hx : x.toNat = y.toNat := by
            have := congrArg UInt8.toNat e.1
            simp only [UInt8.toNat_ofNat'] at this
            omega
          rw [ih b ha.2 hb.2 e.2, show x = y by omega]
    exact inj a b ha hb e
def sameG : List AV → Option (Bool × AV) := ad2 (adR eY) (adR eY) fun a b => giv (bytesOk a && bytesOk b) (boo (decide (a = b)))
theorem strL_row (l : List Int) : strL l.length (fun k => eY.enc (l.getD k 0)) = l := by
  have : strL l.length (fun k => eY.enc (l.getD k 0)) = rows eY l.length (fun k => eY.enc (l.getD k 0)) := by
    unfold strL rows
    exact List.map_congr_left fun k _ => rfl
  rw [this]
  exact rows_row eY l
theorem same_ok : CtrOk Try.prog 28 (borCtr sameG) :=
  borCtr_can XF0_ok Try.func28 (by decide) rfl fun args u h => by
    obtain ⟨a, b, hf, ha, hb, hv⟩ := ad2_some h
    obtain ⟨hc, rfl⟩ := giv_some hv
    refine ⟨_, hf, ?_⟩
    clear h hv hf
    simp only [Bool.and_eq_true] at hc
    have al : ∀ l : List Int, ((List.range l.length).all fun k => (byteAV (eY.enc (l.getD k 0))).isSome) = true := fun l => List.all_eq_true.2 fun k _ => rfl
    have e1 := and2 (a := true) rfl (al a)
    have e2 := and2 (a := true) rfl (al b)
    unfold runF
    (conv => arg 1; whnf); (repeat' (first | (refine brt (by assumption) ?_; (conv => arg 1; whnf)) | (refine brf (by assumption) ?_; (conv => arg 1; whnf)) | fail))
    refine finB ?_
    show decide (a = b) = ((strB (strL a.length (fun k => eY.enc (a.getD k 0)))).toList == (strB (strL b.length (fun k => eY.enc (b.getD k 0)))).toList)
    rw [strL_row, strL_row, strB_eq hc.1 hc.2]
/-! ### Bytes as a frame -/
def Fr.zero : Fr := ⟨0, 0, 0, 0, 0, 0⟩
/-- The frame of bytes; the error's number. -/
def decL (l : List Int) : Fr × Int :=
  if l.length ≠ 10 ∨ l.getD 0 0 ≠ 165 then (Fr.zero, 3)
  else if [l.getD 8 0, l.getD 9 0] ≠ pairL (crc (l.take 8)) then (Fr.zero, 6)
  else if l.getD 1 0 < 1 ∨ 3 < l.getD 1 0 then (Fr.zero, 3)
  else (⟨l.getD 1 0, l.getD 2 0, l.getD 3 0 * 256 + l.getD 4 0, l.getD 5 0, l.getD 6 0, l.getD 7 0⟩, 0)
def decG : List AV → Option (Bool × AV) := ad1 (adR eY) fun l => giv (bytesOk l) (.t [(decL l).1.av, i64 (decL l).2])
theorem or16 {a b : Int} (ha : 0 ≤ a) (ha' : a < 256) (hb : 0 ≤ b) (hb' : b < 256) : bits .or .i64 (IntKind.i64.wrap (IntKind.i64.wrap a * 2 ^ min (Int.toNat 8) IntKind.i64.bits)) (IntKind.i64.wrap b) = a * 256 + b := by
  rw [show (2 : Int) ^ min (Int.toNat 8) IntKind.i64.bits = 256 by decide, wf64 a (by omega) (by omega), wf64 b (by omega) (by omega), wf64 _ (by omega) (by omega)]
  show IntKind.i64.wrap ((BitVec.ofInt 64 (a * 256) ||| BitVec.ofInt 64 b).toNat : Nat) = _
  rw [BitVec.toNat_or, BitVec.toNat_ofInt, BitVec.toNat_ofInt, show ((a * 256) % ((2 ^ 64 : Nat) : Int)).toNat = 2 ^ 8 * a.toNat by omega, show (b % ((2 ^ 64 : Nat) : Int)).toNat = b.toNat by omega, ← Nat.two_pow_add_eq_or_of_lt (by omega), wf64 _ (by omega) (by omega)]
  omega
theorem len10 {l : List Int} (h : l.length = 10) : ∃ c0 c1 c2 c3 c4 c5 c6 c7 c8 c9, l = [c0, c1, c2, c3, c4, c5, c6, c7, c8, c9] := by
  match l, h with
  | [c0, c1, c2, c3, c4, c5, c6, c7, c8, c9], _ => exact ⟨_, _, _, _, _, _, _, _, _, _, rfl⟩
theorem finFr {f : Fr} {n : Int} {a b c d e g m : Int} {σ' : St} (h : f = ⟨a, b, c, d, e, g⟩) (hn : n = m) : tr (Fin 0 (.t [f.av, i64 n]) [] (.t [.a [i64 a, i64 b, i64 c, i64 d, i64 e, i64 g], i64 m]) σ') := by
  subst h hn
  exact finT ⟨Fit.al ⟨.v _, .v _, .v _, .v _, .v _, .v _, trivial⟩, .v _, trivial⟩
def XQ0 : Cx := (((XF0.add 41 .pure (pureCtr kindG)).add 40 (.foot footL) (localCtr pairG)).add 22 (.reads readsL) (borCtr sumG)).add 39 (.reads readsL) (borCtr eqG)
theorem XQ0_ok : CxOk Try.prog XQ0 := (((XF0_ok.pure kind_ok).loc pair_ok).bor sum_ok).bor eq_ok
theorem dec_ok : CtrOk Try.prog 23 (borCtr decG) :=
  borCtr_can XQ0_ok Try.func23 (by decide) rfl fun args u h => by
    obtain ⟨l, hf, hlen, hv⟩ := ad1_some h
    obtain ⟨hby, rfl⟩ := giv_some hv
    refine ⟨_, hf, ?_⟩
    clear h hv hf
    have hlen : l.length < 281474976710656 := hlen
    by_cases h10 : l.length = 10
    · obtain ⟨c0, c1, c2, c3, c4, c5, c6, c7, c8, c9, rfl⟩ := len10 h10
      simp only [bytesOk, List.all_cons, List.all_nil, Bool.and_eq_true, decide_eq_true_eq] at hby
      obtain ⟨b0, b1, b2, b3, b4, b5, b6, b7, b8, b9, _⟩ := hby
      have w : ∀ n : Int, 0 ≤ n ∧ n < 256 → IntKind.i64.wrap n = n := fun n h => wf64 n (by omega) (by omega)
      have hd : decL [c0, c1, c2, c3, c4, c5, c6, c7, c8, c9] = if c0 ≠ 165 then (Fr.zero, 3) else if [c8, c9] ≠ pairL (crc [c0, c1, c2, c3, c4, c5, c6, c7]) then (Fr.zero, 6) else if c1 < 1 ∨ 3 < c1 then (Fr.zero, 3) else (⟨c1, c2, c3 * 256 + c4, c5, c6, c7⟩, 0) := by
        unfold decL
        simp
      rw [hd]
      clear hd
      unfold runF
      by_cases g0 : c0 = 165
      · rw [if_neg (fun h => h g0)]
        have e0 : (!decide (c0 = 165)) = false := by rw [decide_eq_true g0]; rfl
        by_cases g1 : [c8, c9] = pairL (crc [c0, c1, c2, c3, c4, c5, c6, c7])
        · rw [if_neg (fun h => h g1)]
          have e1 : (!decide ([c8, c9] = pairL (crc [c0, c1, c2, c3, c4, c5, c6, c7]))) = false := by rw [decide_eq_true g1]; rfl
          by_cases g2 : c1 < 1 ∨ 3 < c1
          · rw [if_pos g2]
            have e2 : (!(decide (1 ≤ IntKind.i64.wrap c1) && decide (IntKind.i64.wrap c1 ≤ 3))) = true := by rw [w c1 b1]; simp; omega
            (conv => arg 1; whnf); (repeat' (first | (refine brt (by assumption) ?_; (conv => arg 1; whnf)) | (refine brf (by assumption) ?_; (conv => arg 1; whnf)) | fail))
            exact finFr rfl rfl
          · rw [if_neg g2]
            have e2 : (!(decide (1 ≤ IntKind.i64.wrap c1) && decide (IntKind.i64.wrap c1 ≤ 3))) = false := by rw [w c1 b1]; simp; omega
            (conv => arg 1; whnf); (repeat' (first | (refine brt (by assumption) ?_; (conv => arg 1; whnf)) | (refine brf (by assumption) ?_; (conv => arg 1; whnf)) | fail))
            refine finFr ?_ rfl
            have := or16 b3.1 b3.2 b4.1 b4.2
            show Fr.mk c1 c2 (c3 * 256 + c4) c5 c6 c7 = Fr.mk (IntKind.i64.wrap c1) (IntKind.i64.wrap c2) _ (IntKind.i64.wrap c5) (IntKind.i64.wrap c6) (IntKind.i64.wrap c7)
            rw [w c1 b1, w c2 b2, w c5 b5, w c6 b6, w c7 b7]
            exact congrArg (fun z => Fr.mk c1 c2 z c5 c6 c7) this.symm
        · rw [if_pos g1]
          have e1 : (!decide ([c8, c9] = pairL (crc [c0, c1, c2, c3, c4, c5, c6, c7]))) = true := by rw [decide_eq_false g1]; rfl
          (conv => arg 1; whnf); (repeat' (first | (refine brt (by assumption) ?_; (conv => arg 1; whnf)) | (refine brf (by assumption) ?_; (conv => arg 1; whnf)) | fail))
          exact finFr rfl rfl
      · rw [if_pos g0]
        have e0 : (!decide (c0 = 165)) = true := by rw [decide_eq_false g0]; rfl
        (conv => arg 1; whnf); (repeat' (first | (refine brt (by assumption) ?_; (conv => arg 1; whnf)) | (refine brf (by assumption) ?_; (conv => arg 1; whnf)) | fail))
        exact finFr rfl rfl
    · have e0 : (!decide ((l.length : Int) = 10)) = true := by rw [decide_eq_false (by omega)]; rfl
      have hd : decL l = (Fr.zero, 3) := if_pos (.inl h10)
      rw [hd]
      unfold runF
      (conv => arg 1; whnf); (repeat' (first | (refine brt (by assumption) ?_; (conv => arg 1; whnf)) | (refine brf (by assumption) ?_; (conv => arg 1; whnf)) | fail))
      exact finFr rfl rfl
def XQ1 : Cx := XF0.add 25 (.reads readsL) (borCtr rsumG)
theorem XQ1_ok : CxOk Try.prog XQ1 := XF0_ok.bor rsum_ok
theorem rdec_ok : CtrOk Try.prog 24 (borCtr decG) :=
  borCtr_can XQ1_ok Try.func24 (by decide) rfl fun args u h => by
    obtain ⟨l, hf, hlen, hv⟩ := ad1_some h
    obtain ⟨hby, rfl⟩ := giv_some hv
    refine ⟨_, hf, ?_⟩
    clear h hv hf
    have hlen : l.length < 281474976710656 := hlen
    by_cases h10 : l.length = 10
    · obtain ⟨c0, c1, c2, c3, c4, c5, c6, c7, c8, c9, rfl⟩ := len10 h10
      have hby8 : bytesOk [c0, c1, c2, c3, c4, c5, c6, c7] = true := by
        simp only [bytesOk, List.all_cons, List.all_nil, Bool.and_eq_true, decide_eq_true_eq] at hby ⊢
        exact ⟨hby.1, hby.2.1, hby.2.2.1, hby.2.2.2.1, hby.2.2.2.2.1, hby.2.2.2.2.2.1, hby.2.2.2.2.2.2.1, hby.2.2.2.2.2.2.2.1, trivial⟩
      simp only [bytesOk, List.all_cons, List.all_nil, Bool.and_eq_true, decide_eq_true_eq] at hby
      obtain ⟨b0, b1, b2, b3, b4, b5, b6, b7, b8, b9, _⟩ := hby
      have w : ∀ n : Int, 0 ≤ n ∧ n < 256 → IntKind.i64.wrap n = n := fun n h => wf64 n (by omega) (by omega)
      have w2 : ∀ n m : Int, 0 ≤ n ∧ n < 256 → 0 ≤ m ∧ m < 256 → IntKind.i64.wrap (IntKind.i64.wrap (IntKind.i64.wrap n * 256) + IntKind.i64.wrap m) = n * 256 + m := fun n m h h' => by
        rw [w n h, w m h', wf64 (n * 256) (by omega) (by omega), wf64 _ (by omega) (by omega)]
      have hd : decL [c0, c1, c2, c3, c4, c5, c6, c7, c8, c9] = if c0 ≠ 165 then (Fr.zero, 3) else if [c8, c9] ≠ pairL (crc [c0, c1, c2, c3, c4, c5, c6, c7]) then (Fr.zero, 6) else if c1 < 1 ∨ 3 < c1 then (Fr.zero, 3) else (⟨c1, c2, c3 * 256 + c4, c5, c6, c7⟩, 0) := by
        unfold decL
        simp
      rw [hd]
      clear hd
      have hcb := crc_bd [c0, c1, c2, c3, c4, c5, c6, c7]
      have hp := pairL_eq _ hcb.1 hcb.2
      have hg : [c8, c9] = pairL (crc [c0, c1, c2, c3, c4, c5, c6, c7]) ↔ crc [c0, c1, c2, c3, c4, c5, c6, c7] = c8 * 256 + c9 := by
        rw [hp, List.cons.injEq, List.cons.injEq]
        constructor
        · rintro ⟨h1, h2, _⟩; omega
        · intro h; exact ⟨by omega, by omega, rfl⟩
      have ev : crc (rows eY 8 fun k => eY.enc ([c0, c1, c2, c3, c4, c5, c6, c7, c8, c9].getD (0 + k) 0)) = crc [c0, c1, c2, c3, c4, c5, c6, c7] := rfl
      unfold runF
      by_cases g0 : c0 = 165
      · rw [if_neg (fun h => h g0)]
        have e0 : (!decide (c0 = 165)) = false := by rw [decide_eq_true g0]; rfl
        by_cases g1 : [c8, c9] = pairL (crc [c0, c1, c2, c3, c4, c5, c6, c7])
        · rw [if_neg (fun h => h g1)]
          have e1 : (!decide (crc [c0, c1, c2, c3, c4, c5, c6, c7] = IntKind.i64.wrap (IntKind.i64.wrap (IntKind.i64.wrap c8 * 256) + IntKind.i64.wrap c9))) = false := by rw [w2 c8 c9 b8 b9, decide_eq_true (hg.1 g1)]; rfl
          by_cases g2 : c1 < 1
          · rw [if_pos (.inl g2)]
            have e2 : decide (c1 < 1) = true := decide_eq_true g2
            (conv => arg 1; whnf); (repeat' (first | (refine brt (by assumption) ?_; (conv => arg 1; whnf)) | (refine brf (by assumption) ?_; (conv => arg 1; whnf)) | fail)); (refine brt ?_ ?_; (focus (exact and2 rfl (and2 hby8 rfl); done)); (conv => arg 1; whnf)); (conv => arg 1; whnf); (repeat' (first | (refine brt (by assumption) ?_; (conv => arg 1; whnf)) | (refine brf (by assumption) ?_; (conv => arg 1; whnf)) | fail))
            exact finFr rfl rfl
          · have e2 : decide (c1 < 1) = false := decide_eq_false g2
            by_cases g3 : 3 < c1
            · rw [if_pos (.inr g3)]
              have e3 : decide (3 < c1) = true := decide_eq_true g3
              (conv => arg 1; whnf); (repeat' (first | (refine brt (by assumption) ?_; (conv => arg 1; whnf)) | (refine brf (by assumption) ?_; (conv => arg 1; whnf)) | fail)); (refine brt ?_ ?_; (focus (exact and2 rfl (and2 hby8 rfl); done)); (conv => arg 1; whnf)); (conv => arg 1; whnf); (repeat' (first | (refine brt (by assumption) ?_; (conv => arg 1; whnf)) | (refine brf (by assumption) ?_; (conv => arg 1; whnf)) | fail))
              exact finFr rfl rfl
            · rw [if_neg (by omega)]
              have e3 : decide (3 < c1) = false := decide_eq_false g3
              (conv => arg 1; whnf); (repeat' (first | (refine brt (by assumption) ?_; (conv => arg 1; whnf)) | (refine brf (by assumption) ?_; (conv => arg 1; whnf)) | fail)); (refine brt ?_ ?_; (focus (exact and2 rfl (and2 hby8 rfl); done)); (conv => arg 1; whnf)); (conv => arg 1; whnf); (repeat' (first | (refine brt (by assumption) ?_; (conv => arg 1; whnf)) | (refine brf (by assumption) ?_; (conv => arg 1; whnf)) | fail))
              refine finFr ?_ rfl
              show Fr.mk c1 c2 (c3 * 256 + c4) c5 c6 c7 = Fr.mk (IntKind.i64.wrap c1) (IntKind.i64.wrap c2) _ (IntKind.i64.wrap c5) (IntKind.i64.wrap c6) (IntKind.i64.wrap c7)
              rw [w c1 b1, w c2 b2, w c5 b5, w c6 b6, w c7 b7]
              exact congrArg (fun z => Fr.mk c1 c2 z c5 c6 c7) (w2 c3 c4 b3 b4).symm
        · rw [if_pos g1]
          have e1 : (!decide (crc [c0, c1, c2, c3, c4, c5, c6, c7] = IntKind.i64.wrap (IntKind.i64.wrap (IntKind.i64.wrap c8 * 256) + IntKind.i64.wrap c9))) = true := by rw [w2 c8 c9 b8 b9, decide_eq_false (fun h => g1 (hg.2 h))]; rfl
          (conv => arg 1; whnf); (repeat' (first | (refine brt (by assumption) ?_; (conv => arg 1; whnf)) | (refine brf (by assumption) ?_; (conv => arg 1; whnf)) | fail)); (refine brt ?_ ?_; (focus (exact and2 rfl (and2 hby8 rfl); done)); (conv => arg 1; whnf)); (conv => arg 1; whnf); (repeat' (first | (refine brt (by assumption) ?_; (conv => arg 1; whnf)) | (refine brf (by assumption) ?_; (conv => arg 1; whnf)) | fail))
          exact finFr rfl rfl
      · rw [if_pos g0]
        have e0 : (!decide (c0 = 165)) = true := by rw [decide_eq_false g0]; rfl
        (conv => arg 1; whnf); (repeat' (first | (refine brt (by assumption) ?_; (conv => arg 1; whnf)) | (refine brf (by assumption) ?_; (conv => arg 1; whnf)) | fail))
        exact finFr rfl rfl
    · have e0 : (!decide ((l.length : Int) = 10)) = true := by rw [decide_eq_false (by omega)]; rfl
      have hd : decL l = (Fr.zero, 3) := if_pos (.inl h10)
      rw [hd]
      unfold runF
      (conv => arg 1; whnf); (repeat' (first | (refine brt (by assumption) ?_; (conv => arg 1; whnf)) | (refine brf (by assumption) ?_; (conv => arg 1; whnf)) | fail))
      exact finFr rfl rfl
def mayG : List AV → Option (Bool × AV) := ad1 adFr fun f => giv true (boo f.may)
theorem may_ok : CtrOk Try.prog 27 (borCtr mayG) :=
  borCtr_can XF0_ok Try.func27 (by decide) rfl fun args u h => by
    obtain ⟨f, hf, _, hv⟩ := ad1_some h
    obtain ⟨_, rfl⟩ := giv_some hv
    refine ⟨_, hf, ?_⟩
    clear h hv hf
    unfold runF
    (conv => arg 1; whnf)
    refine loopIn (fun k : Nat => k ≤ 4 ∧ ∀ j, j < k → 0 ≤ [f.ca, f.a, f.b, f.c].getD j 0 ∧ [f.ca, f.a, f.b, f.c].getD j 0 ≤ 255) (fun k => frm 48 [(1, .p 0 0), (3, .s 1 1 0 4), (4, i64 k)]) (fun _ => [.lit [i64 f.ki, i64 f.ca, i64 f.sq, i64 f.a, i64 f.b, i64 f.c], .tab 1 4 fun j => [i64 ([f.ca, f.a, f.b, f.c].getD j 0)]]) (fun k => 4 - k) 0 [0, 1] ⟨Nat.zero_le _, fun j hj => by omega⟩ (by decide) ?_ ?_ rfl fun k hi => ?_
    · repeat' (first | exact True.intro | exact Fit.dead _ | exact Fit.v _ | exact .i fun _ _ => rfl | exact Fit.ip | exact .p rfl | exact .q rfl | exact .s rfl | exact .y rfl | refine Fit.al ?_ | refine Fit.fl ?_ ?_ | refine And.intro ?_ ?_)
    · refine ⟨⟨_, rfl, .lit ⟨.v _, .v _, .v _, .v _, .v _, .v _, trivial⟩⟩, ⟨_, rfl, .tab fun k hk => ?_⟩, trivial⟩
      match k, hk with
      | 0, _ => rfl
      | 1, _ => rfl
      | 2, _ => rfl
      | 3, _ => rfl
    · obtain ⟨hk, hall⟩ := hi
      (conv => arg 1; whnf)
      refine br (fun h => ?_) (fun h => ?_)
      · have h : (k : Int) < 4 := of_decide_eq_true h
        have e1 : (decide (0 ≤ (k : Int)) && decide ((k : Int) < 4)) = true := by simp only [Bool.and_eq_true, decide_eq_true_eq]; omega
        have ek : 0 + ((k : Int)).toNat = k := by omega
        have e2 : decide (0 + ((k : Int)).toNat < 4) = true := by rw [ek]; exact decide_eq_true (by omega)
        by_cases g1 : [f.ca, f.a, f.b, f.c].getD k 0 < 0
        · have e3 : decide ([f.ca, f.a, f.b, f.c].getD (0 + ((k : Int)).toNat) 0 < 0) = true := by rw [ek]; exact decide_eq_true g1
          (conv => arg 1; whnf); (repeat' (first | (refine brt (by assumption) ?_; (conv => arg 1; whnf)) | (refine brf (by assumption) ?_; (conv => arg 1; whnf)) | fail))
          refine leaveRet ?_
          show tr _
          (conv => arg 1; whnf)
          refine finB (Bool.eq_false_iff.2 fun m => ?_)
          have := Fr.may_bd m
          have : k = 0 ∨ k = 1 ∨ k = 2 ∨ k = 3 := by omega
          rcases this with rfl | rfl | rfl | rfl <;> (simp at g1; omega)
        · have e3 : decide ([f.ca, f.a, f.b, f.c].getD (0 + ((k : Int)).toNat) 0 < 0) = false := by rw [ek]; exact decide_eq_false g1
          by_cases g2 : 255 < [f.ca, f.a, f.b, f.c].getD k 0
          · have e4 : decide (255 < [f.ca, f.a, f.b, f.c].getD (0 + ((k : Int)).toNat) 0) = true := by rw [ek]; exact decide_eq_true g2
            (conv => arg 1; whnf); (repeat' (first | (refine brt (by assumption) ?_; (conv => arg 1; whnf)) | (refine brf (by assumption) ?_; (conv => arg 1; whnf)) | fail))
            refine leaveRet ?_
            show tr _
            (conv => arg 1; whnf)
            refine finB (Bool.eq_false_iff.2 fun m => ?_)
            have := Fr.may_bd m
            have : k = 0 ∨ k = 1 ∨ k = 2 ∨ k = 3 := by omega
            rcases this with rfl | rfl | rfl | rfl <;> (simp at g2; omega)
          · have e4 : decide (255 < [f.ca, f.a, f.b, f.c].getD (0 + ((k : Int)).toNat) 0) = false := by rw [ek]; exact decide_eq_false g2
            (conv => arg 1; whnf); (repeat' (first | (refine brt (by assumption) ?_; (conv => arg 1; whnf)) | (refine brf (by assumption) ?_; (conv => arg 1; whnf)) | fail))
            refine again (k + 1) [0, 1] ⟨by omega, fun j hj => ?_⟩ (by omega) (by decide) ?_ ?_ rfl
            · rcases Nat.lt_or_ge j k with g | g
              · exact hall j g
              · obtain rfl : j = k := by omega
                omega
            · repeat' (first | exact True.intro | exact Fit.dead _ | exact Fit.v _ | exact .p rfl | exact .s rfl | refine And.intro ?_ ?_)
              exact Fit.v' (congrArg (Value.int .i64) (nxt k (by omega)).symm)
            · exact ⟨⟨_, rfl, .lit ⟨.v _, .v _, .v _, .v _, .v _, .v _, trivial⟩⟩, ⟨_, rfl, .tab fun k hk => rfl⟩, trivial⟩
      · have h : ¬ (k : Int) < 4 := of_decide_eq_false h
        have b0 := hall 0 (by omega)
        have b1 := hall 1 (by omega)
        have b2 := hall 2 (by omega)
        have b3 := hall 3 (by omega)
        simp at b0 b1 b2 b3
        have em : f.may = ((decide (1 ≤ f.ki) && decide (f.ki ≤ 3)) && (decide (0 ≤ f.sq) && decide (f.sq ≤ 65535))) := by
          unfold Fr.may fitsL
          simp [b0, b1, b2, b3]
        have hl : ∀ {a b c d r : Bool}, decide (1 ≤ f.ki) = a → decide (f.ki ≤ 3) = b → decide (0 ≤ f.sq) = c → decide (f.sq ≤ 65535) = d → ((a && b) && (c && d)) = r → f.may = r := fun h1 h2 h3 h4 h5 => by rw [em, h1, h2, h3, h4, h5]
        clear em
        rcases Bool.eq_false_or_eq_true (decide (1 ≤ f.ki)) with h1 | h1 <;> rcases Bool.eq_false_or_eq_true (decide (f.ki ≤ 3)) with h2 | h2 <;> rcases Bool.eq_false_or_eq_true (decide (0 ≤ f.sq)) with h3 | h3 <;> rcases Bool.eq_false_or_eq_true (decide (f.sq ≤ 65535)) with h4 | h4 <;>
          ((conv => arg 1; whnf)
           refine leave ?_
           show tr _
           (conv => arg 1; whnf); (repeat' (first | (refine brt (by assumption) ?_; (conv => arg 1; whnf)) | (refine brf (by assumption) ?_; (conv => arg 1; whnf)) | fail))
           exact finB (hl h1 h2 h3 h4 (by first | rfl | (rw [h1]; rfl) | (rw [h2]; rfl) | (rw [h3]; rfl) | (rw [h4]; rfl))))
end Go.Proofs.Ytaneamfnjhiigaa.E
