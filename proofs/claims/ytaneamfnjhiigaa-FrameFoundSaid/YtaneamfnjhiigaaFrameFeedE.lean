/- The document's feeding of bytes, and the program's. -/
import Derived.Test.YtaneamfnjhiigaaFrameScanE
namespace Go.Proofs.Ytaneamfnjhiigaa.E
open Go
set_option linter.unusedSimpArgs false
set_option linter.unusedVariables false
set_option maxRecDepth 100000
set_option maxHeartbeats 4000000

def XQ2 : Cx := XF0.add 24 (.reads readsL) (borCtr decG)
theorem XQ2_ok : CxOk Try.prog XQ2 := XF0_ok.bor rdec_ok
theorem isRow_get {α : Type} {e : Elt α} {n sz : Nat} {g : Nat → List AV} (h : isRow e n sz g = true) : sz = e.sz ∧ RowIs e n g (rows e n g) ∧ n < 281474976710656 := by
  unfold isRow at h
  simp only [Bool.and_eq_true, Nat.blt_eq] at h
  exact ⟨Nat.eq_of_beq_eq_true h.1, ⟨(rows_len e n g).symm, fun k hk => okRow_get e h.2.1 hk⟩, h.2.2⟩
def feedA (l : List Int) : AV := .t [.s 1 6 0 (scan l).1.length, i64 (scan l).2.1, .s 0 1 (l.length - (scan l).2.2.length) (scan l).2.2.length]
def rfeedG : List AV → St → Option (Bool × AV × St)
  | [.s 0 1 0 n], [.tab 1 m g] => some (((Nat.beq n m && isRow eY n 1 g) && bytesOk (rows eY n g)) && Nat.ble n 1000000, feedA (rows eY n g), [.tab 1 m g, tabl eFr (scan (rows eY n g)).1])
  | _, _ => none
theorem rfeed_ok : CtrOk Try.prog 31 (localCtr rfeedG) :=
  localCtr_ok XQ2_ok Try.func31 (by decide) rfl fun args σ u σ' h => by
    unfold rfeedG at h
    split at h
    case h_2 => cases h
    rename_i n m g
    simp only [Option.some.injEq, Prod.mk.injEq, Bool.and_eq_true] at h
    obtain ⟨⟨⟨⟨hn, hr⟩, hby⟩, hm⟩, rfl, rfl⟩ := h
    have hm := Nat.le_of_ble_eq_true hm
    obtain rfl := Nat.eq_of_beq_eq_true hn
    obtain ⟨_, hrow, hlt⟩ := isRow_get hr
    generalize rows eY n g = l at hrow hby ⊢
    have hl := hrow.len
    subst hl
    clear hn hr
    unfold runF
    (conv => arg 1; whnf)
    refine loopIn (fun x : List Fr × Nat × Nat => x.2.2 ≤ l.length ∧ x.1.length ≤ x.2.2 ∧ x.2.1 ≤ x.2.2 ∧ scan l = (x.1 ++ (scan (l.drop x.2.2)).1, (x.2.1 : Int) + (scan (l.drop x.2.2)).2.1, (scan (l.drop x.2.2)).2.2)) (fun x => frm 42 [(0, .s 0 1 0 l.length), (5, .s 1 6 0 x.1.length), (6, i64 x.2.1), (7, i64 x.2.2)]) (fun x => [.tab 1 l.length g, tabl eFr x.1]) (fun x => l.length - x.2.2) ([], 0, 0) [0, 1] ⟨Nat.zero_le _, Nat.le_refl _, Nat.le_refl _, by simp⟩ (by decide) ?_ ?_ rfl fun x hi => ?_
    · repeat' (first | exact True.intro | exact Fit.dead _ | exact Fit.v _ | exact .i fun _ _ => rfl | exact Fit.ip | exact .p rfl | exact .q rfl | exact .s rfl | exact .y rfl | refine Fit.al ?_ | refine Fit.fl ?_ ?_ | refine And.intro ?_ ?_)
    · exact ⟨⟨_, rfl, .tab fun _ _ => rfl⟩, ⟨_, rfl, .tab fun k hk => absurd hk (Nat.not_lt_zero k)⟩, trivial⟩
    · obtain ⟨F, p, q⟩ := x
      obtain ⟨hq, hF, hp, hs⟩ := hi
      have hq : q ≤ l.length := hq
      have hF : F.length ≤ q := hF
      have hp : p ≤ q := hp
      have w0 : IntKind.i64.wrap ((l.length : Int) - (q : Int)) = ((l.length - q : Nat) : Int) := by rw [wf64 _ (by omega) (by omega)]; omega
      (conv => arg 1; whnf)
      refine br (fun h => ?_) (fun h => ?_)
      · have h10 : q + 10 ≤ l.length := by
          have := of_decide_eq_true h
          rw [w0] at this
          omega
        have w1 : IntKind.i64.wrap ((q : Int) + 10) = ((q + 10 : Nat) : Int) := by rw [wf64 _ (by omega) (by omega)]; omega
        have c1 : (decide (0 ≤ (q : Int)) && (decide ((q : Int) ≤ IntKind.i64.wrap ((q : Int) + 10)) && (decide (IntKind.i64.wrap ((q : Int) + 10) ≤ (l.length : Int)) && decide ((l.length : Int) ≤ (l.length : Int))))) = true := by
          rw [w1]; simp only [Bool.and_eq_true, decide_eq_true_eq]; omega
        have hpart := RowIs.part eY (o := 0 + (q : Int).toNat) (m := (IntKind.i64.wrap ((q : Int) + 10)).toNat - (q : Int).toNat) hrow (by rw [w1]; omega)
        have hpl : (l.drop (0 + (q : Int).toNat)).take ((IntKind.i64.wrap ((q : Int) + 10)).toNat - (q : Int).toNat) = (l.drop q).take 10 := by
          rw [w1, show 0 + (q : Int).toNat = q by omega, show (((q + 10 : Nat) : Int)).toNat - (q : Int).toNat = 10 by omega]
        rw [hpl] at hpart
        have hby' : bytesOk ((l.drop q).take 10) = true := by
          simp only [bytesOk, List.all_eq_true] at hby ⊢
          exact fun x hx => hby x (List.mem_of_mem_drop (List.mem_of_mem_take hx))
        (conv => arg 1; whnf); (repeat' (first | (refine brt (by assumption) ?_; (conv => arg 1; whnf)) | (refine brf (by assumption) ?_; (conv => arg 1; whnf)) | fail))
        (refine brt ?_ ?_; (focus (refine and2 (bor1 (n' := l.length) (g := g) rfl (by rw [w1]; omega)) (and2 ((congrArg bytesOk (RowIs.rows eY hpart)).trans hby') (rowT (e := eY) hpart (by rw [List.length_take]; omega))); done)); (conv => arg 1; whnf))
        rw [RowIs.rows eY hpart]
        have hlen : (l.drop q).length = l.length - q := List.length_drop
        (conv => arg 1; whnf)
        refine br (fun h1 => ?_) (fun h1 => ?_)
        · have h1 : (decL ((l.drop q).take 10)).2 = 0 := of_decide_eq_true h1
          have c2 : ((0 + F.length).ble F.length && (true && (F.length + 1).ble 4294967295)) = true := by simp [Nat.ble_eq]; omega
          (conv => arg 1; whnf); (repeat' (first | (refine brt (by assumption) ?_; (conv => arg 1; whnf)) | (refine brf (by assumption) ?_; (conv => arg 1; whnf)) | fail))
          refine again (F ++ [(decL ((l.drop q).take 10)).1], p, q + 10) [0, 4] ⟨by show q + 10 ≤ _; omega, by show (F ++ [_]).length ≤ q + 10; rw [List.length_append]; simp; omega, by show p ≤ q + 10; omega, ?_⟩ (by show l.length - (q + 10) < l.length - q; omega) (by decide) ?_ ?_ rfl
          · show scan l = ((F ++ [(decL ((l.drop q).take 10)).1]) ++ (scan (l.drop (q + 10))).1, (p : Int) + (scan (l.drop (q + 10))).2.1, (scan (l.drop (q + 10))).2.2)
            have hs : scan l = (F ++ (scan (l.drop q)).1, (p : Int) + (scan (l.drop q)).2.1, (scan (l.drop q)).2.2) := hs
            rw [hs, scan_hit (l := l.drop q) (by omega) h1, List.drop_drop]
            simp
          · have ef : (F ++ [(decL ((l.drop q).take 10)).1]).length = F.length + 1 := by simp
            repeat' (first | exact True.intro | exact Fit.dead _ | exact .s rfl | exact Fit.v _ | refine And.intro ?_ ?_)
            · show Fit _ _ (.s 1 6 0 (F ++ [(decL ((l.drop q).take 10)).1]).length) (.s 4 6 0 (F.length + 1))
              rw [ef]
              exact .s rfl
            · exact Fit.v' (congrArg (Value.int .i64) w1.symm)
          · refine ⟨⟨_, rfl, .tab fun _ _ => rfl⟩, ⟨_, rfl, ?_⟩, trivial⟩
            exact fit_tab (e := eFr) (RowIs.joined eFr (RowIs.all eFr (RowIs.row eFr F)) (l2 := [(decL ((l.drop q).take 10)).1]) ⟨rfl, fun k hk => by
              match k, hk with
              | 0, _ => rfl⟩)
        · have h1 : ¬ (decL ((l.drop q).take 10)).2 = 0 := of_decide_eq_false h1
          (conv => arg 1; whnf); (repeat' (first | (refine brt (by assumption) ?_; (conv => arg 1; whnf)) | (refine brf (by assumption) ?_; (conv => arg 1; whnf)) | fail))
          refine again (F, p + 1, q + 1) [0, 1] ⟨by show q + 1 ≤ _; omega, by show F.length ≤ q + 1; omega, by show p + 1 ≤ q + 1; omega, ?_⟩ (by show l.length - (q + 1) < l.length - q; omega) (by decide) ?_ ?_ rfl
          · show scan l = (F ++ (scan (l.drop (q + 1))).1, ((p + 1 : Nat) : Int) + (scan (l.drop (q + 1))).2.1, (scan (l.drop (q + 1))).2.2)
            have hs : scan l = (F ++ (scan (l.drop q)).1, (p : Int) + (scan (l.drop q)).2.1, (scan (l.drop q)).2.2) := hs
            rw [hs, scan_miss (l := l.drop q) (by omega) h1, List.drop_drop]
            simp only [Prod.mk.injEq, true_and, and_true]
            omega
          · repeat' (first | exact True.intro | exact Fit.dead _ | exact .s rfl | refine And.intro ?_ ?_)
            · exact Fit.v' (congrArg (Value.int .i64) (nxt p (by omega)).symm)
            · exact Fit.v' (congrArg (Value.int .i64) (nxt q (by omega)).symm)
          · exact ⟨⟨_, rfl, .tab fun _ _ => rfl⟩, ⟨_, rfl, .tab fun _ _ => rfl⟩, trivial⟩
      · have h10 : l.length - q < 10 := by
          have := of_decide_eq_false h
          rw [w0] at this
          omega
        have c1 : (decide (0 ≤ (q : Int)) && (decide ((q : Int) ≤ (l.length : Int)) && (decide ((l.length : Int) ≤ (l.length : Int)) && decide ((l.length : Int) ≤ (l.length : Int))))) = true := by
          simp only [Bool.and_eq_true, decide_eq_true_eq]; omega
        (conv => arg 1; whnf)
        refine leave ?_
        show tr _
        (conv => arg 1; whnf); (repeat' (first | (refine brt (by assumption) ?_; (conv => arg 1; whnf)) | (refine brf (by assumption) ?_; (conv => arg 1; whnf)) | fail))
        have hlen : (l.drop q).length = l.length - q := List.length_drop
        have hs : scan l = (F ++ (scan (l.drop q)).1, (p : Int) + (scan (l.drop q)).2.1, (scan (l.drop q)).2.2) := hs
        have e : scan l = (F, (p : Int), l.drop q) := by rw [hs, scan_end (by omega)]; simp
        unfold feedA
        rw [e]
        show tr (some (Cov _ [.t [.s 1 6 0 F.length, i64 p, .s 0 1 (l.length - (l.drop q).length) (l.drop q).length]] _ _ _))
        rw [hlen, show l.length - (l.length - q) = 0 + (q : Int).toNat by omega, show l.length - q = ((l.length : Int)).toNat - (q : Int).toNat by omega]
        exact finS [0, 1] (by decide) (.tl ⟨.s rfl, .v _, .s rfl, trivial⟩) ⟨⟨_, rfl, .tab fun _ _ => rfl⟩, ⟨_, rfl, .tab fun _ _ => rfl⟩, trivial⟩ rfl
theorem fit_s {ρ : List Nat} {σ : St} {l m sz o n o' n' : Nat} (h : ρ[l]? = some m) (ho : o = o') (hn : n = n') : Fit ρ σ (.s l sz o n) (.s m sz o' n') := by subst ho hn; exact .s h
theorem nilIn {a b : Prop} {n : Nat} (h1 : a) (h2 : n = 0 → b) : tr (some (a ∧ (n = 0 → b))) := ⟨h1, h2⟩
def cloneG : List AV → St → Option (Bool × AV × St)
  | [.s 0 1 o n], [.tab 1 m g] => some (Nat.ble (o + n) m && Nat.ble n 1000000, .s 1 1 0 n, [.tab 1 m g, .tab 1 n fun k => g (o + k)])
  | _, _ => none
theorem clone_ok : CtrOk Try.prog 44 (localCtr cloneG) :=
  localCtr_ok XF0_ok Try.func44 (by decide) rfl fun args σ u σ' h => by
    unfold cloneG at h
    split at h
    case h_2 => cases h
    rename_i o n m g
    simp only [Option.some.injEq, Prod.mk.injEq, Bool.and_eq_true] at h
    obtain ⟨⟨h1, h2⟩, rfl, rfl⟩ := h
    have h1 := Nat.le_of_ble_eq_true h1
    have h2 := Nat.le_of_ble_eq_true h2
    unfold runF
    (conv => arg 1; whnf)
    refine nilIn ?_ (fun h0 => ?_)
    · have c1 : ((0 + 0).ble 0 && (Nat.ble (o + n) m && (0 + n).ble 4294967295)) = true := by simp [Nat.ble_eq]; omega
      (conv => arg 1; whnf); (repeat' (first | (refine brt (by assumption) ?_; (conv => arg 1; whnf)) | (refine brf (by assumption) ?_; (conv => arg 1; whnf)) | fail))
      refine finS [0, 2] (by decide) ?_ ⟨⟨_, rfl, .tab fun _ _ => rfl⟩, ⟨_, rfl, ?_⟩, trivial⟩ rfl
      · show Fit _ _ (.s 1 1 0 n) (.s 2 1 0 (0 + n))
        rw [Nat.zero_add]
        exact .s rfl
      · show FitB _ _ (.tab 1 n fun k => g (o + k)) (.tab 1 (0 + n) (joined 0 _ fun k => g (o + k)))
        rw [joined_zero, Nat.zero_add]
        exact .tab fun _ _ => rfl
    · subst h0
      (conv => arg 1; whnf); (repeat' (first | (refine brt (by assumption) ?_; (conv => arg 1; whnf)) | (refine brf (by assumption) ?_; (conv => arg 1; whnf)) | fail))
      exact Cov.slot 0 1 _ _ rfl (by decide) .nil (.mk [0, 1] (by decide) ⟨.s rfl, trivial⟩ ⟨⟨_, rfl, .tab fun _ _ => rfl⟩, ⟨_, rfl, .tab fun k hk => absurd hk (Nat.not_lt_zero k)⟩, trivial⟩ rfl)
/-! ### The program's way -/
/-- What was left, and what comes. -/
def feedG : List AV → St → Option (Bool × AV × St)
  | [.p 0 0, .s 2 1 o' n], [.lit [.s 1 1 o k], .tab 1 m g, .tab 1 m' g'] =>
    some ((((Nat.ble (o + k) m && Nat.ble (o' + n) m') && (isRow eY k 1 (fun j => g (o + j)) && isRow eY n 1 (fun j => g' (o' + j)))) && (bytesOk (rows eY k fun j => g (o + j)) && bytesOk (rows eY n fun j => g' (o' + j)))) && (Nat.ble k 100000 && Nat.ble n 100000),
      .t [.s 4 6 0 (scan ((rows eY k fun j => g (o + j)) ++ rows eY n fun j => g' (o' + j))).1.length, i64 (scan ((rows eY k fun j => g (o + j)) ++ rows eY n fun j => g' (o' + j))).2.1],
      [.lit [.s 3 1 0 (scan ((rows eY k fun j => g (o + j)) ++ rows eY n fun j => g' (o' + j))).2.2.length], .gone, .tab 1 m' g', tabl eY (scan ((rows eY k fun j => g (o + j)) ++ rows eY n fun j => g' (o' + j))).2.2, tabl eFr (scan ((rows eY k fun j => g (o + j)) ++ rows eY n fun j => g' (o' + j))).1])
  | _, _ => none
def XQ3 : Cx := (XF0.add 23 (.reads readsL) (borCtr decG)).add 44 (.foot footL) (localCtr cloneG)
theorem XQ3_ok : CxOk Try.prog XQ3 := (XF0_ok.bor dec_ok).loc clone_ok
theorem feed_ok : CtrOk Try.prog 30 (localCtr feedG) :=
  localCtr_ok XQ3_ok Try.func30 (by decide) rfl fun args σ u σ' h => by
    unfold feedG at h
    split at h
    case h_2 => cases h
    rename_i o' n o k m g m' g'
    simp only [Option.some.injEq, Prod.mk.injEq, Bool.and_eq_true] at h
    obtain ⟨⟨⟨⟨⟨h1, h2⟩, h3, h4⟩, h5, h6⟩, h7, h8⟩, rfl, rfl⟩ := h
    have h1 := Nat.le_of_ble_eq_true h1
    have h2 := Nat.le_of_ble_eq_true h2
    have h7 := Nat.le_of_ble_eq_true h7
    have h8 := Nat.le_of_ble_eq_true h8
    obtain ⟨_, r1, _⟩ := isRow_get h3
    obtain ⟨_, r2, _⟩ := isRow_get h4
    generalize (rows eY k fun j => g (o + j)) = l1 at r1 h5 ⊢
    generalize (rows eY n fun j => g' (o' + j)) = l2 at r2 h6 ⊢
    have hall : bytesOk (l1 ++ l2) = true := by
      simp only [bytesOk, List.all_append, Bool.and_eq_true] at h5 h6 ⊢
      exact ⟨h5, h6⟩
    clear h3 h4 h5 h6
    have rJ := RowIs.joined eY r1 r2
    obtain ⟨l, hl⟩ : ∃ l, l = l1 ++ l2 := ⟨_, rfl⟩
    rw [← hl] at hall rJ ⊢
    have hlen : k + n = l.length := rJ.len
    have c0 : (Nat.ble (o + k) m && (Nat.ble (o' + n) m' && (k + n).ble 4294967295)) = true := by simp [Nat.ble_eq]; omega
    clear hl r1 r2
    unfold runF
    (conv => arg 1; whnf); (repeat' (first | (refine brt (by assumption) ?_; (conv => arg 1; whnf)) | (refine brf (by assumption) ?_; (conv => arg 1; whnf)) | fail))
    refine loopInC (fun x : List Fr × Nat × Nat => x.2.2 ≤ l.length ∧ x.1.length ≤ x.2.2 ∧ x.2.1 ≤ x.2.2 ∧ scan l = (x.1 ++ (scan (l.drop x.2.2)).1, (x.2.1 : Int) + (scan (l.drop x.2.2)).2.1, (scan (l.drop x.2.2)).2.2)) (fun x => frm 85 [(0, .p 0 0), (4, .s 4 6 0 x.1.length), (5, i64 x.2.1)]) (fun x => [.lit [.s 3 1 x.2.2 (l.length - x.2.2)], .gone, .tab 1 m' g', tabl eY l, tabl eFr x.1]) (fun x => l.length - x.2.2) ([], 0, 0) ⟨Nat.zero_le _, Nat.le_refl _, Nat.le_refl _, by simp⟩
      (.slot 4 6 _ _ rfl (by decide) .nil (.mk [0, 1, 2, 3, 4] (by decide) ?_ ?_ rfl)) fun x hi => ?_
    · repeat' (first | exact True.intro | exact Fit.dead _ | exact Fit.v _ | exact .i fun _ _ => rfl | exact Fit.ip | exact .p rfl | exact .q rfl | exact .s rfl | exact .y rfl | refine Fit.al ?_ | refine Fit.fl ?_ ?_ | refine And.intro ?_ ?_)
    · exact ⟨⟨_, rfl, .lit ⟨fit_s rfl rfl hlen.symm, trivial⟩⟩, ⟨_, rfl, .gone _⟩, ⟨_, rfl, .tab fun _ _ => rfl⟩, ⟨_, rfl, fit_tab (e := eY) rJ⟩, ⟨_, rfl, .tab fun k hk => absurd hk (Nat.not_lt_zero k)⟩, trivial⟩
    · obtain ⟨F, p, q⟩ := x
      obtain ⟨hq, hF, hp, hs⟩ := hi
      have hq : q ≤ l.length := hq
      have hF : F.length ≤ q := hF
      have hp : p ≤ q := hp
      have hs : scan l = (F ++ (scan (l.drop q)).1, (p : Int) + (scan (l.drop q)).2.1, (scan (l.drop q)).2.2) := hs
      have hdl : (l.drop q).length = l.length - q := List.length_drop
      (conv => arg 1; whnf)
      refine br (fun h => ?_) (fun h => ?_)
      · have h10 : l.length - q < 10 := by
          have : ((l.length - q : Nat) : Int) < 10 := of_decide_eq_true h
          omega
        (conv => arg 1; whnf)
        refine leave ?_
        show tr _
        have c1 : (Nat.ble (q + (l.length - q)) l.length && Nat.ble (l.length - q) 1000000) = true := by simp [Nat.ble_eq]; omega
        (conv => arg 1; whnf); (repeat' (first | (refine brt (by assumption) ?_; (conv => arg 1; whnf)) | (refine brf (by assumption) ?_; (conv => arg 1; whnf)) | fail))
        have e : scan l = (F, (p : Int), l.drop q) := by rw [hs, scan_end (by omega)]; simp
        rw [e]
        show tr (some (Cov _ [.t [.s 4 6 0 F.length, i64 p]] [.lit [.s 3 1 0 (l.drop q).length], .gone, .tab 1 m' g', tabl eY (l.drop q), tabl eFr F] _ _))
        refine finS [0, 1, 2, 5, 4] (by decide) (.tl ⟨.s rfl, .v _, trivial⟩) ⟨⟨_, rfl, .lit ⟨fit_s rfl rfl hdl, trivial⟩⟩, ⟨_, rfl, .gone _⟩, ⟨_, rfl, .tab fun _ _ => rfl⟩, ⟨_, rfl, ?_⟩, ⟨_, rfl, .tab fun _ _ => rfl⟩, trivial⟩ rfl
        have hp := RowIs.part eY (o := q) (m := l.length - q) (RowIs.row eY l) (by omega)
        rw [List.take_of_length_le (by omega)] at hp
        exact fit_tab (e := eY) hp
      · have h10 : ¬ l.length - q < 10 := by
          have : ¬ ((l.length - q : Nat) : Int) < 10 := of_decide_eq_false h
          omega
        have e0 : (decide ((0 : Int) ≤ 0) && decide ((0 : Int) < ((l.length - q : Nat) : Int))) = true := by simp only [Bool.and_eq_true, decide_eq_true_eq]; omega
        have e1 : decide (q + (0 : Int).toNat < l.length) = true := decide_eq_true (by omega)
        have e2 : (decide ((0 : Int) ≤ 1) && (decide ((1 : Int) ≤ ((l.length - q : Nat) : Int)) && (decide (((l.length - q : Nat) : Int) ≤ ((l.length - q : Nat) : Int)) && decide (((l.length - q : Nat) : Int) ≤ ((l.length - q : Nat) : Int))))) = true := by
          simp only [Bool.and_eq_true, decide_eq_true_eq]; omega
        have miss : ¬ (decL ((l.drop q).take 10)).2 = 0 → scan l = (F ++ (scan (l.drop (q + 1))).1, ((p + 1 : Nat) : Int) + (scan (l.drop (q + 1))).2.1, (scan (l.drop (q + 1))).2.2) := fun h1 => by
          rw [hs, scan_miss (l := l.drop q) (by omega) h1, List.drop_drop]
          simp only [Prod.mk.injEq, true_and, and_true]
          omega
        (conv => arg 1; whnf); (repeat' (first | (refine brt (by assumption) ?_; (conv => arg 1; whnf)) | (refine brf (by assumption) ?_; (conv => arg 1; whnf)) | fail))
        refine br (fun h0 => ?_) (fun h0 => ?_)
        · have hmark : ¬ (decL ((l.drop q).take 10)).2 = 0 := by
            have h0 : (!decide (l.getD q 0 = 165)) = true := h0
            have h0 : ¬ l.getD q 0 = 165 := by simpa using h0
            have hg : ((l.drop q).take 10).getD 0 0 = l.getD q 0 := by
              rw [List.getD_eq_getElem?_getD, List.getD_eq_getElem?_getD, List.getElem?_take, if_pos (by omega), List.getElem?_drop]
              rfl
            unfold decL
            rw [if_pos (.inr (by rw [hg]; exact h0))]
            decide
          (conv => arg 1; whnf); (repeat' (first | (refine brt (by assumption) ?_; (conv => arg 1; whnf)) | (refine brf (by assumption) ?_; (conv => arg 1; whnf)) | fail))
          refine again (F, p + 1, q + 1) [0, 1, 2, 3, 4] ⟨by show q + 1 ≤ _; omega, by show F.length ≤ q + 1; omega, by show p + 1 ≤ q + 1; omega, miss hmark⟩ (by show l.length - (q + 1) < l.length - q; omega) (by decide) ?_ ?_ rfl
          · repeat' (first | exact True.intro | exact Fit.dead _ | exact .s rfl | exact .p rfl | refine And.intro ?_ ?_)
            exact Fit.v' (congrArg (Value.int .i64) (nxt p (by omega)).symm)
          · refine ⟨⟨_, rfl, .lit ⟨?_, trivial⟩⟩, ⟨_, rfl, .gone _⟩, ⟨_, rfl, .tab fun _ _ => rfl⟩, ⟨_, rfl, .tab fun _ _ => rfl⟩, ⟨_, rfl, .tab fun _ _ => rfl⟩, trivial⟩
            show Fit _ _ (.s 3 1 (q + 1) (l.length - (q + 1))) (.s 3 1 (q + (1 : Int).toNat) (((l.length - q : Nat) : Int).toNat - (1 : Int).toNat))
            exact fit_s rfl rfl (by omega)
        · have e3 : (decide ((0 : Int) ≤ 0) && (decide ((0 : Int) ≤ 10) && (decide ((10 : Int) ≤ ((l.length - q : Nat) : Int)) && decide (((l.length - q : Nat) : Int) ≤ ((l.length - q : Nat) : Int))))) = true := by
            simp only [Bool.and_eq_true, decide_eq_true_eq]; omega
          have hpart := RowIs.part eY (o := q + (0 : Int).toNat) (m := (10 : Int).toNat - (0 : Int).toNat) (RowIs.row eY l) (by omega)
          have hpl : (l.drop (q + (0 : Int).toNat)).take ((10 : Int).toNat - (0 : Int).toNat) = (l.drop q).take 10 := rfl
          rw [hpl] at hpart
          have hby' : bytesOk ((l.drop q).take 10) = true := by
            simp only [bytesOk, List.all_eq_true] at hall ⊢
            exact fun x hx => hall x (List.mem_of_mem_drop (List.mem_of_mem_take hx))
          (conv => arg 1; whnf); (repeat' (first | (refine brt (by assumption) ?_; (conv => arg 1; whnf)) | (refine brf (by assumption) ?_; (conv => arg 1; whnf)) | fail))
          (refine brt ?_ ?_; (focus (refine and2 (bor1 (n' := l.length) rfl (by show q + 10 ≤ l.length; omega)) (and2 ((congrArg bytesOk (RowIs.rows eY hpart)).trans hby') (rowT (e := eY) hpart (by rw [List.length_take]; omega))); done)); (conv => arg 1; whnf))
          rw [RowIs.rows eY hpart]
          (conv => arg 1; whnf)
          refine br (fun h1 => ?_) (fun h1 => ?_)
          · have hmiss : ¬ (decL ((l.drop q).take 10)).2 = 0 := by
              have h1 : (!decide ((decL ((l.drop q).take 10)).2 = 0)) = true := h1
              simpa using h1
            (conv => arg 1; whnf); (repeat' (first | (refine brt (by assumption) ?_; (conv => arg 1; whnf)) | (refine brf (by assumption) ?_; (conv => arg 1; whnf)) | fail))
            refine again (F, p + 1, q + 1) [0, 1, 2, 3, 4] ⟨by show q + 1 ≤ _; omega, by show F.length ≤ q + 1; omega, by show p + 1 ≤ q + 1; omega, miss hmiss⟩ (by show l.length - (q + 1) < l.length - q; omega) (by decide) ?_ ?_ rfl
            · repeat' (first | exact True.intro | exact Fit.dead _ | exact .s rfl | exact .p rfl | refine And.intro ?_ ?_)
              exact Fit.v' (congrArg (Value.int .i64) (nxt p (by omega)).symm)
            · refine ⟨⟨_, rfl, .lit ⟨?_, trivial⟩⟩, ⟨_, rfl, .gone _⟩, ⟨_, rfl, .tab fun _ _ => rfl⟩, ⟨_, rfl, .tab fun _ _ => rfl⟩, ⟨_, rfl, .tab fun _ _ => rfl⟩, trivial⟩
              show Fit _ _ (.s 3 1 (q + 1) (l.length - (q + 1))) (.s 3 1 (q + (1 : Int).toNat) (((l.length - q : Nat) : Int).toNat - (1 : Int).toNat))
              exact fit_s rfl rfl (by omega)
          · have hhit : (decL ((l.drop q).take 10)).2 = 0 := by
              have h1 : (!decide ((decL ((l.drop q).take 10)).2 = 0)) = false := h1
              simpa using h1
            have c2 : ((0 + F.length).ble F.length && (true && (F.length + 1).ble 4294967295)) = true := by simp [Nat.ble_eq]; omega
            have e4 : (decide ((0 : Int) ≤ 10) && (decide ((10 : Int) ≤ ((l.length - q : Nat) : Int)) && (decide (((l.length - q : Nat) : Int) ≤ ((l.length - q : Nat) : Int)) && decide (((l.length - q : Nat) : Int) ≤ ((l.length - q : Nat) : Int))))) = true := by
              simp only [Bool.and_eq_true, decide_eq_true_eq]; omega
            (conv => arg 1; whnf); (repeat' (first | (refine brt (by assumption) ?_; (conv => arg 1; whnf)) | (refine brf (by assumption) ?_; (conv => arg 1; whnf)) | fail))
            refine again (F ++ [(decL ((l.drop q).take 10)).1], p, q + 10) [0, 1, 2, 3, 7] ⟨by show q + 10 ≤ _; omega, by show (F ++ [_]).length ≤ q + 10; rw [List.length_append]; simp; omega, by show p ≤ q + 10; omega, ?_⟩ (by show l.length - (q + 10) < l.length - q; omega) (by decide) ?_ ?_ rfl
            · show scan l = ((F ++ [(decL ((l.drop q).take 10)).1]) ++ (scan (l.drop (q + 10))).1, (p : Int) + (scan (l.drop (q + 10))).2.1, (scan (l.drop (q + 10))).2.2)
              rw [hs, scan_hit (l := l.drop q) (by omega) hhit, List.drop_drop]
              simp
            · have ef : (F ++ [(decL ((l.drop q).take 10)).1]).length = F.length + 1 := by simp
              repeat' (first | exact True.intro | exact Fit.dead _ | exact Fit.v _ | exact .p rfl | refine And.intro ?_ ?_)
              exact fit_s rfl rfl ef
            · refine ⟨⟨_, rfl, .lit ⟨?_, trivial⟩⟩, ⟨_, rfl, .gone _⟩, ⟨_, rfl, .tab fun _ _ => rfl⟩, ⟨_, rfl, .tab fun _ _ => rfl⟩, ⟨_, rfl, ?_⟩, trivial⟩
              · show Fit _ _ (.s 3 1 (q + 10) (l.length - (q + 10))) (.s 3 1 (q + (10 : Int).toNat) (((l.length - q : Nat) : Int).toNat - (10 : Int).toNat))
                exact fit_s rfl rfl (by omega)
              · exact fit_tab (e := eFr) (RowIs.joined eFr (RowIs.all eFr (RowIs.row eFr F)) (l2 := [(decL ((l.drop q).take 10)).1]) ⟨rfl, fun k hk => by
                  match k, hk with
                  | 0, _ => rfl⟩)
end Go.Proofs.Ytaneamfnjhiigaa.E
