/- The law FrameFound, by the engine. -/
import Derived.Test.YtaneamfnjhiigaaFrameFeedsE
namespace Go.Proofs.Ytaneamfnjhiigaa.E
open Go
set_option linter.unusedSimpArgs false
set_option linter.unusedVariables false
set_option maxRecDepth 100000
set_option maxHeartbeats 4000000
/-! ### Bytes that come in parts -/
theorem scan_append (a b : List Int) : scan (a ++ b) = ((scan a).1 ++ (scan ((scan a).2.2 ++ b)).1, (scan a).2.1 + (scan ((scan a).2.2 ++ b)).2.1, (scan ((scan a).2.2 ++ b)).2.2) := by
  have main : ∀ (n : Nat) (a : List Int), a.length ≤ n → scan (a ++ b) = ((scan a).1 ++ (scan ((scan a).2.2 ++ b)).1, (scan a).2.1 + (scan ((scan a).2.2 ++ b)).2.1, (scan ((scan a).2.2 ++ b)).2.2) := by
    intro n
    induction n with
    | zero =>
      intro a h
      rw [scan_end (l := a) (by omega)]
      simp
    | succ n ih =>
      intro a h
      by_cases h10 : a.length < 10
      · rw [scan_end h10]
        simp
      · have hl : ¬ (a ++ b).length < 10 := by rw [List.length_append]; omega
        have ht : (a ++ b).take 10 = a.take 10 := by rw [List.take_append_of_le_length (by omega)]
        have hd : ∀ k, k ≤ 10 → (a ++ b).drop k = a.drop k ++ b := fun k hk => by rw [List.drop_append_of_le_length (by omega)]
        by_cases e : (decL (a.take 10)).2 = 0
        · have hl2 : (a.drop 10).length = a.length - 10 := List.length_drop
          rw [scan_hit hl (by rw [ht]; exact e), scan_hit h10 e, ht, hd 10 (by omega), ih (a.drop 10) (by omega)]
          simp
        · have hl2 : (a.drop 1).length = a.length - 1 := List.length_drop
          rw [scan_miss hl (by rw [ht]; exact e), scan_miss h10 e, hd 1 (by omega), ih (a.drop 1) (by omega)]
          simp only [Prod.mk.injEq, true_and, and_true]
          omega
  exact main _ a (Nat.le_refl _)
theorem dec_bytesF {f : Fr} (h : f.may = true) : decL f.bytes = (f, 0) := by
  have hb := Fr.may_bd h
  have hcb := crc_bd f.body
  have hp := pairL_eq (crc f.body) (by omega) (by omega)
  have e1 : f.bytes.length = 10 := rfl
  have e2 : [f.bytes.getD 8 0, f.bytes.getD 9 0] = pairL (crc (f.bytes.take 8)) := hp.symm
  have e3 : f.sq / 256 * 256 + f.sq % 256 = f.sq := by omega
  unfold decL
  rw [if_neg (by rw [e1]; simp [Fr.bytes]), if_neg (fun h => h e2), if_neg (by show ¬ (f.ki < 1 ∨ 3 < f.ki); omega)]
  show (Fr.mk f.ki f.ca (f.sq / 256 * 256 + f.sq % 256) f.a f.b f.c, (0 : Int)) = _
  rw [e3]
theorem bytesOk_bytesF {f : Fr} (h : f.may = true) : bytesOk f.bytes = true := by
  have hb := Fr.may_bd h
  have hcb := crc_bd f.body
  simp only [bytesOk, Fr.bytes, List.all_cons, List.all_nil, Bool.and_eq_true, decide_eq_true_eq, and_true]
  omega
def noMark (l : List Int) : Bool := l.all fun n => !decide (n = 165)
def joinB (fs : List Fr) : List Int := (fs.map Fr.bytes).flatten
theorem miss_mark {c : Int} {l : List Int} (h : ¬ c = 165) : ¬ (decL ((c :: l).take 10)).2 = 0 := by
  unfold decL
  rw [if_pos (.inr (by show ((c :: l).take 10).getD 0 0 ≠ 165; exact h))]
  decide
theorem joinB_len (fs : List Fr) : (joinB fs).length = 10 * fs.length := by
  induction fs with
  | nil => rfl
  | cons f fs ih =>
    show (f.bytes ++ joinB fs).length = _
    rw [List.length_append, ih, List.length_cons]
    show 10 + _ = _
    omega
theorem scan_joinB (fs : List Fr) (h : ∀ f ∈ fs, f.may = true) : scan (joinB fs) = (fs, 0, []) := by
  induction fs with
  | nil => exact scan_end (by show (0 : Nat) < 10; omega)
  | cons f fs ih =>
    have hj : joinB (f :: fs) = f.bytes ++ joinB fs := rfl
    have ht : (f.bytes ++ joinB fs).take 10 = f.bytes := List.take_left' rfl
    have hd : (f.bytes ++ joinB fs).drop 10 = joinB fs := List.drop_left' rfl
    have hm := dec_bytesF (h f (List.mem_cons_self ..))
    rw [hj, scan_hit (by rw [List.length_append]; show ¬ 10 + _ < 10; omega) (by rw [ht, hm]), ht, hd, hm, ih fun g hg => h g (List.mem_cons_of_mem _ hg)]
theorem scan_junk (J : List Int) (W : List Int) (hJ : noMark J = true) (hW : 10 ≤ W.length) : scan (J ++ W) = ((scan W).1, J.length + (scan W).2.1, (scan W).2.2) := by
  induction J with
  | nil => simp
  | cons c J ih =>
    simp only [noMark, List.all_cons, Bool.and_eq_true, Bool.not_eq_true', decide_eq_false_iff_not] at hJ
    have ih := ih (by simpa [noMark] using hJ.2)
    rw [List.cons_append, scan_miss (by rw [List.length_cons, List.length_append]; omega) (miss_mark hJ.1)]
    show ((scan (J ++ W)).1, 1 + (scan (J ++ W)).2.1, (scan (J ++ W)).2.2) = _
    rw [ih]
    simp only [List.length_cons, Prod.mk.injEq, true_and, and_true]
    omega
theorem scan_only (J : List Int) (hJ : noMark J = true) : (scan J).1 = [] ∧ (scan J).2.1 = ((J.length - 9 : Nat) : Int) := by
  induction J with
  | nil => rw [scan_end (by show (0 : Nat) < 10; omega)]; exact ⟨rfl, rfl⟩
  | cons c J ih =>
    simp only [noMark, List.all_cons, Bool.and_eq_true, Bool.not_eq_true', decide_eq_false_iff_not] at hJ
    obtain ⟨i1, i2⟩ := ih (by simpa [noMark] using hJ.2)
    by_cases h : (c :: J).length < 10
    · rw [scan_end h]
      refine ⟨rfl, ?_⟩
      show (0 : Int) = _
      omega
    · rw [scan_miss h (miss_mark hJ.1)]
      show (scan J).1 = [] ∧ 1 + (scan J).2.1 = _
      rw [List.length_cons] at h ⊢
      exact ⟨i1, by rw [i2]; omega⟩
theorem scan_num (l : List Int) : 0 ≤ (scan l).2.1 ∧ (scan l).2.1 ≤ l.length := by
  have main : ∀ (n : Nat) (l : List Int), l.length ≤ n → 0 ≤ (scan l).2.1 ∧ (scan l).2.1 ≤ l.length := by
    intro n
    induction n with
    | zero => intro l h; rw [scan_end (by omega)]; exact ⟨Int.le_refl _, by show (0 : Int) ≤ _; omega⟩
    | succ n ih =>
      intro l h
      by_cases h10 : l.length < 10
      · rw [scan_end h10]; exact ⟨Int.le_refl _, by show (0 : Int) ≤ _; omega⟩
      · by_cases e : (decL (l.take 10)).2 = 0
        · rw [scan_hit h10 e]
          have hl : (l.drop 10).length = l.length - 10 := List.length_drop
          have := ih (l.drop 10) (by omega)
          show 0 ≤ (scan (l.drop 10)).2.1 ∧ (scan (l.drop 10)).2.1 ≤ _
          omega
        · rw [scan_miss h10 e]
          have hl : (l.drop 1).length = l.length - 1 := List.length_drop
          have := ih (l.drop 1) (by omega)
          show 0 ≤ 1 + (scan (l.drop 1)).2.1 ∧ 1 + (scan (l.drop 1)).2.1 ≤ _
          omega
  exact main _ l (Nat.le_refl _)
theorem joinB_ok (fs : List Fr) (h : ∀ f ∈ fs, f.may = true) : bytesOk (joinB fs) = true := by
  simp only [bytesOk, joinB, List.all_eq_true, List.mem_flatten, List.mem_map]
  rintro x ⟨_, ⟨f, hf, rfl⟩, hx⟩
  have := bytesOk_bytesF (h f hf)
  simp only [bytesOk, List.all_eq_true] at this
  exact this x hx
theorem frs_arg {u : AV} (h : isArg tt 57 u) : ∃ l : List Fr, u = row eFr l ∧ l.length < 281474976710656 := by
  obtain ⟨m, g, e, hm, hg, hz⟩ := h
  obtain rfl := (List.cons.inj e).1
  obtain ⟨l, e, h1, _⟩ := row_eq eFr (m := m) (g := g) (p := fun _ => True) (fun k hk => by
    obtain ⟨_, _, e1, ⟨a1, rfl, w1⟩, _, _, rfl, ⟨a2, rfl, w2⟩, _, _, rfl, ⟨a3, rfl, w3⟩, _, _, rfl, ⟨a4, rfl, w4⟩, _, _, rfl, ⟨a5, rfl, w5⟩, _, _, rfl, ⟨a6, rfl, w6⟩, rfl⟩ := hg k hk
    exact ⟨⟨a1, a2, a3, a4, a5, a6⟩, e1, trivial⟩) hz (by have : m * 6 < 281474976710656 := hm; omega)
  exact ⟨l, e, h1⟩
def jf (jk : List Int) (k : Nat) : List Int := (jk.take k).filter fun c => !decide (c = 165)
theorem jf_more {jk : List Int} {k : Nat} (hk : k < jk.length) (h : ¬ jk.getD k 0 = 165) : jf jk (k + 1) = jf jk k ++ [jk.getD k 0] := by
  unfold jf
  rw [List.getD_eq_getElem?_getD, List.getElem?_eq_getElem hk] at h ⊢
  simp only [Option.getD_some] at h ⊢
  rw [List.take_add_one, List.getElem?_eq_getElem hk, List.filter_append]
  congr 1
  simp [List.filter, h]
theorem jf_same {jk : List Int} {k : Nat} (hk : k < jk.length) (h : jk.getD k 0 = 165) : jf jk (k + 1) = jf jk k := by
  unfold jf
  rw [List.getD_eq_getElem?_getD, List.getElem?_eq_getElem hk] at h
  simp only [Option.getD_some] at h
  rw [List.take_add_one, List.getElem?_eq_getElem hk, List.filter_append]
  simp [List.filter, h]
theorem jf_len (jk : List Int) (k : Nat) : (jf jk k).length ≤ jk.length := by
  unfold jf
  have h1 := List.length_filter_le (fun c => !decide (c = 165)) (jk.take k)
  have h2 : (jk.take k).length ≤ jk.length := by rw [List.length_take]; omega
  omega
noncomputable def XFO : Cx := XFF.add 27 (.reads readsL) (borCtr mayG)
theorem XFO_ok : CxOk Try.prog XFO := XFF_ok.bor may_ok
theorem encAt_yes {f : Fr} (h : f.may = true) {args : List AV} {σ : St} (h0 : ((reads2 args σ).all fun l => Nat.blt l σ.length) = true) (h1 : args.map (viewD σ) = [f.av]) :
    Prod.snd (26, freshCtr encG) args σ = some (args.all (vokD σ) && true, reAV (shiftR σ.length) (.t [.s 0 1 0 10, i64 0]), σ ++ [tabl eY f.bytes].map (reB (shiftR σ.length))) := by
  have e : encG (args.map (viewD σ)) = some (true, .t [.s 0 1 0 10, i64 0], [tabl eY f.bytes]) := by
    rw [h1]
    obtain ⟨a, b, c, d, e, g⟩ := f
    show andC true ((fun f : Fr => match f.may with
      | true => some (true, AV.t [.s 0 1 0 10, i64 0], [tabl eY f.bytes])
      | false => some (true, .t [.v (.slice none 0 0), i64 1], [])) ⟨a, b, c, d, e, g⟩) = _
    simp only [h]
    rfl
  show freshCtr encG args σ = _
  unfold freshCtr
  simp only [h0, e]
  rfl
theorem encAt_no {f : Fr} (h : f.may = false) {args : List AV} {σ : St} (h0 : ((reads2 args σ).all fun l => Nat.blt l σ.length) = true) (h1 : args.map (viewD σ) = [f.av]) :
    Prod.snd (26, freshCtr encG) args σ = some (args.all (vokD σ) && true, reAV (shiftR σ.length) (.t [.v (.slice none 0 0), i64 1]), σ ++ [].map (reB (shiftR σ.length))) := by
  have e : encG (args.map (viewD σ)) = some (true, .t [.v (.slice none 0 0), i64 1], []) := by
    rw [h1]
    obtain ⟨a, b, c, d, e, g⟩ := f
    show andC true ((fun f : Fr => match f.may with
      | true => some (true, AV.t [.s 0 1 0 10, i64 0], [tabl eY f.bytes])
      | false => some (true, .t [.v (.slice none 0 0), i64 1], [])) ⟨a, b, c, d, e, g⟩) = _
    simp only [h]
    rfl
  show freshCtr encG args σ = _
  unfold freshCtr
  simp only [h0, e]
  rfl
theorem FrameFound (us : List AV) (h : areArgs tt [57, 34, 3] us) : runF XFO Try.f10 us [] (boo true) [] := by
  obtain ⟨_, _, rfl, h1, _, _, rfl, h2, _, _, rfl, h3, rfl⟩ := h
  obtain ⟨fs, rfl, hfl⟩ := frs_arg h1
  obtain ⟨jk, rfl, hjl, hjb⟩ := bytes_row h2
  obtain ⟨ct, rfl, ct1, ct2⟩ := int_arg h3
  clear h1 h2 h3
  unfold runF
  by_cases g1 : 40 < (fs.length : Int)
  · have e1 : decide (40 < (fs.length : Int)) = true := decide_eq_true g1
    (conv => arg 1; whnf); (repeat' (first | (refine brt (by assumption) ?_; (conv => arg 1; whnf)) | (refine brf (by assumption) ?_; (conv => arg 1; whnf)) | fail))
    exact finB rfl
  have e1 : decide (40 < (fs.length : Int)) = false := decide_eq_false g1
  by_cases g2 : 100 < (jk.length : Int)
  · have e2 : decide (100 < (jk.length : Int)) = true := decide_eq_true g2
    (conv => arg 1; whnf); (repeat' (first | (refine brt (by assumption) ?_; (conv => arg 1; whnf)) | (refine brf (by assumption) ?_; (conv => arg 1; whnf)) | fail))
    exact finB rfl
  have e2 : decide (100 < (jk.length : Int)) = false := decide_eq_false g2
  (conv => arg 1; whnf); (repeat' (first | (refine brt (by assumption) ?_; (conv => arg 1; whnf)) | (refine brf (by assumption) ?_; (conv => arg 1; whnf)) | fail))
  clear e1 e2
  refine loopIn (fun k : Nat => k ≤ jk.length) (fun k => frm 121 [(0, row eFr fs), (2, i64 ct), (7, .s 0 1 0 (jf jk k).length), (33, row eY jk), (34, i64 jk.length), (35, i64 k)]) (fun k => [tabl eY (jf jk k)]) (fun k => jk.length - k) 0 [0] (Nat.zero_le _) (by decide) ?_ ?_ rfl fun k hk => ?_
  · repeat' (first | exact True.intro | exact Fit.dead _ | exact Fit.v _ | exact .s rfl | exact row_self eY _ | exact row_self eFr _ | refine And.intro ?_ ?_)
  · exact ⟨⟨_, rfl, .tab fun k hk => absurd hk (Nat.not_lt_zero k)⟩, trivial⟩
  · have hJ := jf_len jk k
    have hk : k ≤ jk.length := hk
    (conv => arg 1; whnf)
    refine br (fun h => ?_) (fun h => ?_)
    · have hkl : (k : Int) < (jk.length : Int) := of_decide_eq_true h
      have c1 : (decide (0 ≤ (k : Int)) && decide ((k : Int) < (jk.length : Int))) = true := by simp only [Bool.and_eq_true, decide_eq_true_eq]; omega
      have c2 : ((0 + (jf jk k).length).ble (jf jk k).length && (true && ((jf jk k).length + 1).ble 4294967295)) = true := by simp [Nat.ble_eq]; omega
      (conv => arg 1; whnf); (repeat' (first | (refine brt (by assumption) ?_; (conv => arg 1; whnf)) | (refine brf (by assumption) ?_; (conv => arg 1; whnf)) | fail))
      refine br (fun h5 => ?_) (fun h5 => ?_)
      · have h5 : (!decide (jk.getD k 0 = 165)) = true := h5
        have hm := jf_more (jk := jk) (k := k) (by omega) (by simpa using h5)
        (conv => arg 1; whnf); (repeat' (first | (refine brt (by assumption) ?_; (conv => arg 1; whnf)) | (refine brf (by assumption) ?_; (conv => arg 1; whnf)) | fail))
        refine again (k + 1) [2] (by show k + 1 ≤ _; omega) (by show jk.length - (k + 1) < jk.length - k; omega) (by decide) ?_ ?_ rfl
        · repeat' (first | exact True.intro | exact Fit.dead _ | exact Fit.v _ | exact row_self eY _ | exact row_self eFr _ | refine And.intro ?_ ?_)
          · exact fit_s rfl rfl (by rw [hm, List.length_append]; rfl)
          · exact Fit.v' (congrArg (Value.int .i64) (nxt k (by omega)).symm)
        · refine ⟨⟨_, rfl, ?_⟩, trivial⟩
          show FitB _ _ (tabl eY (jf jk (k + 1))) _
          rw [hm]
          exact fit_tab (e := eY) (RowIs.joined eY (RowIs.all eY (RowIs.row eY (jf jk k))) (l2 := [jk.getD k 0]) ⟨rfl, fun i hi => by
            match i, hi with
            | 0, _ => rfl⟩)
      · have h5 : (!decide (jk.getD k 0 = 165)) = false := h5
        have hm := jf_same (jk := jk) (k := k) (by omega) (by simpa using h5)
        (conv => arg 1; whnf); (repeat' (first | (refine brt (by assumption) ?_; (conv => arg 1; whnf)) | (refine brf (by assumption) ?_; (conv => arg 1; whnf)) | fail))
        refine again (k + 1) [0] (by show k + 1 ≤ _; omega) (by show jk.length - (k + 1) < jk.length - k; omega) (by decide) ?_ ?_ rfl
        · repeat' (first | exact True.intro | exact Fit.dead _ | exact Fit.v _ | exact row_self eY _ | exact row_self eFr _ | refine And.intro ?_ ?_)
          · exact fit_s rfl rfl (by rw [hm])
          · exact Fit.v' (congrArg (Value.int .i64) (nxt k (by omega)).symm)
        · refine ⟨⟨_, rfl, ?_⟩, trivial⟩
          show FitB _ _ (tabl eY (jf jk (k + 1))) _
          rw [hm]
          exact .tab fun _ _ => rfl
    · have hkl : ¬ (k : Int) < (jk.length : Int) := of_decide_eq_false h
      obtain ⟨J, hJJ⟩ : ∃ J, J = jf jk k := ⟨_, rfl⟩
      have hJb : bytesOk J = true := by
        rw [hJJ]
        simp only [bytesOk, jf, List.all_eq_true, List.mem_filter, Bool.and_eq_true, decide_eq_true_eq]
        exact fun x hx => by have := hjb x (List.mem_of_mem_take hx.1); omega
      have hJm : noMark J = true := by
        rw [hJJ]
        simp only [noMark, jf, List.all_eq_true, List.mem_filter]
        exact fun x hx => hx.2
      rw [← hJJ] at hJ ⊢
      clear hJJ
      (conv => arg 1; whnf)
      refine leave ?_
      show tr _
      (conv => arg 1; whnf); (repeat' (first | (refine brt (by assumption) ?_; (conv => arg 1; whnf)) | (refine brf (by assumption) ?_; (conv => arg 1; whnf)) | fail))
      obtain ⟨wk, hwk⟩ : ∃ wk : Nat → List Int, wk = fun k => J ++ joinB (fs.take k) := ⟨_, rfl⟩
      have hw0 : wk 0 = J := by rw [hwk]; simp [joinB]
      have hw1 : ∀ k, k < fs.length → wk (k + 1) = wk k ++ (fs.getD k eFr.dflt).bytes := fun k hk => by
        rw [hwk]
        show J ++ joinB (fs.take (k + 1)) = (J ++ joinB (fs.take k)) ++ _
        rw [List.take_add_one, List.getD_eq_getElem?_getD, List.getElem?_eq_getElem hk]
        simp only [joinB, List.map_append, List.flatten_append, Option.toList_some, List.map_cons, List.map_nil, List.flatten_cons, List.flatten_nil, List.append_nil, Option.getD_some, List.append_assoc]
      have hwl : ∀ k, k ≤ fs.length → (wk k).length = J.length + 10 * k := fun k hk => by
        rw [hwk]
        show (J ++ joinB (fs.take k)).length = _
        rw [List.length_append, joinB_len, List.length_take, Nat.min_eq_left hk]
      refine loopIn (fun k : Nat => k ≤ fs.length ∧ ∀ j, j < k → (fs.getD j eFr.dflt).may = true) (fun k => frm 121 [(0, row eFr fs), (2, i64 ct), (7, .s 0 1 0 (wk k).length), (10, i64 J.length), (48, row eFr fs), (49, i64 fs.length), (50, i64 k)]) (fun k => [tabl eY (wk k)]) (fun k => fs.length - k) 0 [0] ⟨Nat.zero_le _, fun j hj => absurd hj (Nat.not_lt_zero j)⟩ (by decide) ?_ ?_ rfl fun k hk => ?_
      · repeat' (first | exact True.intro | exact Fit.dead _ | exact Fit.v _ | exact row_self eY _ | exact row_self eFr _ | refine And.intro ?_ ?_)
        exact fit_s rfl rfl (by rw [hw0])
      · refine ⟨⟨_, rfl, ?_⟩, trivial⟩
        show FitB _ _ (tabl eY (wk 0)) _
        rw [hw0]
        exact .tab fun _ _ => rfl
      · obtain ⟨hk, hmay⟩ := hk
        have hk : k ≤ fs.length := hk
        (conv => arg 1; whnf)
        refine br (fun h => ?_) (fun h => ?_)
        · have hkl : (k : Int) < (fs.length : Int) := of_decide_eq_true h
          have c1 : (decide (0 ≤ (k : Int)) && decide ((k : Int) < (fs.length : Int))) = true := by simp only [Bool.and_eq_true, decide_eq_true_eq]; omega
          (conv => arg 1; whnf); (repeat' (first | (refine brt (by assumption) ?_; (conv => arg 1; whnf)) | (refine brf (by assumption) ?_; (conv => arg 1; whnf)) | fail))
          by_cases hm : (fs.getD k eFr.dflt).may = true
          · conv in (Prod.snd (26, freshCtr encG) _ _) =>
              tactic => refine encAt_yes hm ?_ ?_ <;> rfl
            have m1 : (!(decide ((0 : Int) = 0) == (fs.getD k eFr.dflt).may)) = false := by rw [hm]; rfl
            have hw := hwl k hk
            (conv => arg 1; whnf); (repeat' (first | (refine brt (by assumption) ?_; (conv => arg 1; whnf)) | (refine brf (by assumption) ?_; (conv => arg 1; whnf)) | fail))
            (refine brt ?_ ?_; (focus (refine and2 ?_ (and2 ?_ ?_) <;> (first | rfl | (simp [Nat.ble_eq]; done) | (simp [Nat.ble_eq]; omega)); done)); (conv => arg 1; whnf))
            (conv => arg 1; whnf); (repeat' (first | (refine brt (by assumption) ?_; (conv => arg 1; whnf)) | (refine brf (by assumption) ?_; (conv => arg 1; whnf)) | fail))
            refine again (k + 1) [3] ⟨by show k + 1 ≤ _; omega, fun j hj => ?_⟩ (by show fs.length - (k + 1) < fs.length - k; omega) (by decide) ?_ ?_ rfl
            · rcases Nat.lt_or_ge j k with g | g
              · exact hmay j g
              · obtain rfl : j = k := by omega
                exact hm
            · repeat' (first | exact True.intro | exact Fit.dead _ | exact Fit.v _ | exact row_self eY _ | exact row_self eFr _ | refine And.intro ?_ ?_)
              · exact fit_s rfl rfl (by rw [hw1 k (by omega), List.length_append]; rfl)
              · exact Fit.v' (congrArg (Value.int .i64) (nxt k (by omega)).symm)
            · refine ⟨⟨_, rfl, ?_⟩, trivial⟩
              show FitB _ _ (tabl eY (wk (k + 1))) _
              rw [hw1 k (by omega)]
              exact fit_tab (e := eY) (RowIs.joined eY (RowIs.all eY (RowIs.row eY (wk k))) (RowIs.all eY (RowIs.row eY (fs.getD k eFr.dflt).bytes)))
          · conv in (Prod.snd (26, freshCtr encG) _ _) =>
              tactic => refine encAt_no (by simpa using hm) ?_ ?_ <;> rfl
            have m1 : (!(decide ((1 : Int) = 0) == (fs.getD k eFr.dflt).may)) = false := by rw [show (fs.getD k eFr.dflt).may = false by simpa using hm]; rfl
            (conv => arg 1; whnf); (repeat' (first | (refine brt (by assumption) ?_; (conv => arg 1; whnf)) | (refine brf (by assumption) ?_; (conv => arg 1; whnf)) | fail))
            refine leaveRet ?_
            show tr _
            (conv => arg 1; whnf); (repeat' (first | (refine brt (by assumption) ?_; (conv => arg 1; whnf)) | (refine brf (by assumption) ?_; (conv => arg 1; whnf)) | fail))
            exact finB rfl
        · have hkl : ¬ (k : Int) < (fs.length : Int) := of_decide_eq_false h
          (conv => arg 1; whnf)
          refine leave ?_
          show tr _
          (conv => arg 1; whnf); (repeat' (first | (refine brt (by assumption) ?_; (conv => arg 1; whnf)) | (refine brf (by assumption) ?_; (conv => arg 1; whnf)) | fail))
          obtain ⟨W, hW⟩ : ∃ W, W = wk k := ⟨_, rfl⟩
          have hke : k = fs.length := by omega
          have hall : ∀ f ∈ fs, f.may = true := fun f hf => by
            obtain ⟨i, hi, rfl⟩ := List.getElem_of_mem hf
            have := hmay i (by omega)
            rw [List.getD_eq_getElem?_getD, List.getElem?_eq_getElem hi] at this
            exact this
          have hWJ : W = J ++ joinB fs := by rw [hW, hke, hwk]; show J ++ joinB (fs.take fs.length) = _; rw [List.take_length]
          have hWl : W.length = J.length + 10 * fs.length := by rw [hWJ, List.length_append, joinB_len]
          rw [← hW]
          have s0 : scan (W.take 0) = ([], 0, []) := by rw [List.take_zero]; exact scan_end (by show (0 : Nat) < 10; omega)
          obtain ⟨sz, hsz, hz1, hz2⟩ : ∃ sz : Int, IntKind.i64.wrap (bits .and .i64 ct 15 + 1) = sz ∧ 1 ≤ sz ∧ sz ≤ 16 := by
            rw [and15, wf64 _ (by omega) (by omega)]
            exact ⟨_, rfl, by omega, by omega⟩
          rw [hsz]
          refine loopInC (fun pos : Nat => pos ≤ W.length) (fun pos => frm 121 [(0, row eFr fs), (7, .s 0 1 pos (W.length - pos)), (10, i64 J.length), (15, .p 1 0), (16, i64 (scan (W.take pos)).2.1), (17, .s 3 6 0 (scan (W.take pos)).1.length), (18, i64 sz)]) (fun pos => [tabl eY W, .lit [.s 2 1 0 (scan (W.take pos)).2.2.length], tabl eY (scan (W.take pos)).2.2, tabl eFr (scan (W.take pos)).1]) (fun pos => W.length - pos) 0 (Nat.zero_le _)
            (.cell 1 0 1 _ _ _ rfl rfl (by decide) .nil (.mk [0, 1, 3, 2] (by decide) ?_ ?_ rfl)) fun pos hpos => ?_
          · rw [s0]
            repeat' (first | exact True.intro | exact Fit.dead _ | exact Fit.v _ | exact .s rfl | exact .p rfl | exact row_self eFr _ | refine And.intro ?_ ?_)
          · rw [s0]
            exact ⟨⟨_, rfl, .tab fun _ _ => rfl⟩, ⟨_, rfl, .lit ⟨.s rfl, trivial⟩⟩, ⟨_, rfl, .tab fun k hk => absurd hk (Nat.not_lt_zero k)⟩, ⟨_, rfl, .tab fun k hk => absurd hk (Nat.not_lt_zero k)⟩, trivial⟩
          · have hpos : pos ≤ W.length := hpos
            (conv => arg 1; whnf)
            refine br (fun h => ?_) (fun h => ?_)
            · have hlt : (0 : Int) < ((W.length - pos : Nat) : Int) := of_decide_eq_true h
              obtain ⟨K, hK, hK1, hK2⟩ : ∃ K : Nat, mm false sz ((W.length - pos : Nat) : Int) = (K : Int) ∧ 1 ≤ K ∧ K ≤ W.length - pos := by
                unfold mm
                simp only [Bool.false_eq_true, if_false]
                split <;> first
                  | exact ⟨sz.toNat, by omega, by omega, by omega⟩
                  | exact ⟨W.length - pos, rfl, by omega, by omega⟩
              obtain ⟨F, hF⟩ : ∃ F, F = (scan (W.take pos)).1 := ⟨_, rfl⟩
              obtain ⟨n, hn⟩ : ∃ n, n = (scan (W.take pos)).2.1 := ⟨_, rfl⟩
              obtain ⟨R, hR⟩ : ∃ R, R = (scan (W.take pos)).2.2 := ⟨_, rfl⟩
              have htl : (W.take pos).length = pos := by rw [List.length_take]; omega
              have hFl : F.length ≤ pos := by have := scan_len (W.take pos); rw [hF]; omega
              have hnb : 0 ≤ n ∧ n ≤ pos := by have := scan_num (W.take pos); rw [hn]; omega
              obtain ⟨hs1, hs2, hs3⟩ := scan_rest (W.take pos)
              rw [← hR] at hs1 hs2 hs3
              have hWb : bytesOk W = true := by
                rw [hWJ]
                simp only [bytesOk, List.all_append, Bool.and_eq_true]
                exact ⟨hJb, joinB_ok fs hall⟩
              have hRb : bytesOk R = true := by
                rw [hs1]
                simp only [bytesOk, List.all_eq_true] at hWb ⊢
                exact fun x hx => hWb x (List.mem_of_mem_take (List.mem_of_mem_drop hx))
              have hPb : bytesOk ((W.drop pos).take K) = true := by
                simp only [bytesOk, List.all_eq_true] at hWb ⊢
                exact fun x hx => hWb x (List.mem_of_mem_drop (List.mem_of_mem_take hx))
              have hPl : ((W.drop pos).take K).length = K := by rw [List.length_take, List.length_drop]; omega
              obtain ⟨L, hL⟩ : ∃ L, L = R ++ (W.drop pos).take K := ⟨_, rfl⟩
              have hLl : L.length = R.length + K := by rw [hL, List.length_append, hPl]
              have hnew : scan (W.take (pos + K)) = (F ++ (scan L).1, n + (scan L).2.1, (scan L).2.2) := by
                rw [List.take_add, scan_append, ← hF, ← hn, ← hR, ← hL]
              have hFL := scan_len L
              have hnL := scan_num L
              have c1 : (decide ((0 : Int) ≤ 0) && (decide ((0 : Int) ≤ (K : Int)) && (decide ((K : Int) ≤ ((W.length - pos : Nat) : Int)) && decide (((W.length - pos : Nat) : Int) ≤ ((W.length - pos : Nat) : Int))))) = true := by
                simp only [Bool.and_eq_true, decide_eq_true_eq]; omega
              have c2 : (decide ((0 : Int) ≤ (K : Int)) && (decide ((K : Int) ≤ ((W.length - pos : Nat) : Int)) && (decide (((W.length - pos : Nat) : Int) ≤ ((W.length - pos : Nat) : Int)) && decide (((W.length - pos : Nat) : Int) ≤ ((W.length - pos : Nat) : Int))))) = true := by
                simp only [Bool.and_eq_true, decide_eq_true_eq]; omega
              have rA := RowIs.all eY (RowIs.row eY R)
              have rP := RowIs.part eY (o := pos + (0 : Int).toNat) (m := ((K : Nat) : Int).toNat - (0 : Int).toNat) (RowIs.row eY W) (by show pos + K ≤ _; omega)
              rw [show (W.drop (pos + (0 : Int).toNat)).take (((K : Nat) : Int).toNat - (0 : Int).toNat) = (W.drop pos).take K from rfl] at rP
              have hA : (Nat.ble (0 + R.length) R.length && Nat.ble ((pos + (0 : Int).toNat) + (((K : Nat) : Int).toNat - (0 : Int).toNat)) W.length) = true := by
                show (Nat.ble (0 + R.length) R.length && Nat.ble (pos + K) W.length) = true
                simp [Nat.ble_eq]; omega
              have hS : (Nat.ble R.length 100000 && Nat.ble (((K : Nat) : Int).toNat - (0 : Int).toNat) 100000) = true := by
                show (Nat.ble R.length 100000 && Nat.ble K 100000) = true
                simp [Nat.ble_eq]; omega
              have c3 : ((0 + F.length).ble F.length && ((0 + (scan L).1.length).ble (scan L).1.length && (F.length + (scan L).1.length).ble 4294967295)) = true := by simp [Nat.ble_eq]; omega
              rw [← hF, ← hn, ← hR]
              (conv => arg 1; whnf)
              rw [hK]
              (conv => arg 1; whnf); (repeat' (first | (refine brt (by assumption) ?_; (conv => arg 1; whnf)) | (refine brf (by assumption) ?_; (conv => arg 1; whnf)) | fail))
              (refine brt ?_ ?_; (focus (exact and2 (and2 (and2 hA (and2 (rowT (e := eY) rA (by omega)) (rowT (e := eY) rP (by omega)))) (and2 ((congrArg bytesOk (RowIs.rows eY rA)).trans hRb) ((congrArg bytesOk (RowIs.rows eY rP)).trans hPb))) hS; done)); (conv => arg 1; whnf))
              rw [RowIs.rows eY rA, RowIs.rows eY rP, show R ++ (W.drop pos).take K = L from hL.symm]
              (conv => arg 1; whnf); (repeat' (first | (refine brt (by assumption) ?_; (conv => arg 1; whnf)) | (refine brf (by assumption) ?_; (conv => arg 1; whnf)) | fail))
              refine again (pos + K) [0, 1, 4, 6] (by show pos + K ≤ _; omega) (by show W.length - (pos + K) < W.length - pos; omega) (by decide) ?_ ?_ rfl
              · rw [hnew]
                repeat' (first | exact True.intro | exact Fit.dead _ | exact Fit.v _ | exact .p rfl | exact row_self eFr _ | refine And.intro ?_ ?_)
                · exact fit_s rfl rfl (by show W.length - (pos + K) = (W.length - pos) - K; omega)
                · exact Fit.v' (congrArg (Value.int .i64) (wf64 (n + (scan L).2.1) (by omega) (by omega)).symm)
                · exact fit_s rfl rfl List.length_append
              · rw [hnew]
                refine ⟨⟨_, rfl, .tab fun _ _ => rfl⟩, ⟨_, rfl, .lit ⟨.s rfl, trivial⟩⟩, ⟨_, rfl, .tab fun _ _ => rfl⟩, ⟨_, rfl, ?_⟩, trivial⟩
                exact fit_tab (e := eFr) (RowIs.joined eFr (RowIs.all eFr (RowIs.row eFr F)) (RowIs.all eFr (RowIs.row eFr (scan L).1)))
            · have hpe : pos = W.length := by
                have : ¬ (0 : Int) < ((W.length - pos : Nat) : Int) := of_decide_eq_false h
                omega
              rw [hpe, List.take_length] at *
              (conv => arg 1; whnf)
              refine leave ?_
              show tr _
              by_cases h0 : fs.length = 0
              · have d0 : decide ((fs.length : Int) = 0) = true := decide_eq_true (by omega)
                have hnil : fs = [] := List.eq_nil_of_length_eq_zero h0
                have hWJ2 : W = J := by rw [hWJ, hnil]; simp [joinB]
                obtain ⟨j1, j2⟩ := scan_only J hJm
                rw [← hWJ2] at j1 j2
                rw [j1, j2]
                (conv => arg 1; whnf); (repeat' (first | (refine brt (by assumption) ?_; (conv => arg 1; whnf)) | (refine brf (by assumption) ?_; (conv => arg 1; whnf)) | fail))
                refine finB ?_
                show true = decide (((W.length - 9 : Nat) : Int) = mm true (IntKind.i64.wrap ((J.length : Int) - 9)) 0)
                rw [wf64 _ (by omega) (by omega), hWJ2]
                refine (decide_eq_true ?_).symm
                unfold mm
                simp only
                split <;> omega
              · have d0 : decide ((fs.length : Int) = 0) = false := decide_eq_false (by omega)
                have hsc : scan W = (fs, (J.length : Int) + 0, []) := by
                  rw [hWJ, scan_junk J (joinB fs) hJm (by rw [joinB_len]; omega), scan_joinB fs hall]
                rw [hsc]
                have rF := RowIs.all eFr (RowIs.row eFr fs)
                (conv => arg 1; whnf); (repeat' (first | (refine brt (by assumption) ?_; (conv => arg 1; whnf)) | (refine brf (by assumption) ?_; (conv => arg 1; whnf)) | fail))
                (refine brt ?_ ?_; (focus (exact and2 (and2 (decide_eq_true (show 0 + fs.length ≤ fs.length by omega)) rfl) (and2 (and2 rfl (rowT (e := eFr) (RowIs.row eFr fs) (by omega))) (rowT (e := eFr) rF (by omega))); done)); (conv => arg 1; whnf))
                have f5 : frEq (rows eFr fs.length fun k => eFr.enc (fs.getD (0 + k) eFr.dflt)) (rows eFr fs.length fun k => eFr.enc (fs.getD k eFr.dflt)) = true := by
                  rw [RowIs.rows eFr rF, rows_row eFr fs]
                  exact frEq_yes rfl
                (conv => arg 1; whnf); (repeat' (first | (refine brt (by assumption) ?_; (conv => arg 1; whnf)) | (refine brf (by assumption) ?_; (conv => arg 1; whnf)) | fail))
                exact finB (decide_eq_true (Int.add_zero _)).symm
end Go.Proofs.Ytaneamfnjhiigaa.E
