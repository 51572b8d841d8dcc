/- The law FrameFeeds, by the engine. -/
import Derived.Test.YtaneamfnjhiigaaFrameFeedE
import Derived.Test.YtaneamfnjhiigaaFrameLawsE
namespace Go.Proofs.Ytaneamfnjhiigaa.E
open Go
set_option linter.unusedSimpArgs false
set_option linter.unusedVariables false
set_option maxRecDepth 100000
set_option maxHeartbeats 4000000
theorem scan_rest (l : List Int) : (scan l).2.2 = l.drop (l.length - (scan l).2.2.length) ∧ (scan l).2.2.length < 10 ∧ (scan l).2.2.length ≤ l.length := by
  have main : ∀ (n : Nat) (l : List Int), l.length ≤ n → ((scan l).2.2 = l.drop (l.length - (scan l).2.2.length) ∧ (scan l).2.2.length < 10 ∧ (scan l).2.2.length ≤ l.length) := by
    intro n
    induction n with
    | zero =>
      intro l h
      rw [scan_end (by omega)]
      refine ⟨by simp, by show l.length < 10; omega, Nat.le_refl _⟩
    | succ n ih =>
      intro l h
      by_cases h10 : l.length < 10
      · rw [scan_end h10]
        exact ⟨by simp, h10, Nat.le_refl _⟩
      · by_cases e : (decL (l.take 10)).2 = 0
        · rw [scan_hit h10 e]
          have hl : (l.drop 10).length = l.length - 10 := List.length_drop
          obtain ⟨i1, i2, i3⟩ := ih (l.drop 10) (by omega)
          refine ⟨?_, i2, by show (scan (l.drop 10)).2.2.length ≤ _; omega⟩
          show (scan (l.drop 10)).2.2 = l.drop (l.length - (scan (l.drop 10)).2.2.length)
          refine i1.trans ?_
          rw [List.drop_drop]
          congr 1
          omega
        · rw [scan_miss h10 e]
          have hl : (l.drop 1).length = l.length - 1 := List.length_drop
          obtain ⟨i1, i2, i3⟩ := ih (l.drop 1) (by omega)
          refine ⟨?_, i2, by show (scan (l.drop 1)).2.2.length ≤ _; omega⟩
          show (scan (l.drop 1)).2.2 = l.drop (l.length - (scan (l.drop 1)).2.2.length)
          refine i1.trans ?_
          rw [List.drop_drop]
          congr 1
          omega
  exact main _ l (Nat.le_refl _)
theorem scan_len (l : List Int) : (scan l).1.length ≤ l.length := by
  have main : ∀ (n : Nat) (l : List Int), l.length ≤ n → (scan l).1.length ≤ l.length := by
    intro n
    induction n with
    | zero => intro l h; rw [scan_end (by omega)]; exact Nat.zero_le _
    | succ n ih =>
      intro l h
      by_cases h10 : l.length < 10
      · rw [scan_end h10]; exact Nat.zero_le _
      · by_cases e : (decL (l.take 10)).2 = 0
        · rw [scan_hit h10 e]
          have hl : (l.drop 10).length = l.length - 10 := List.length_drop
          have := ih (l.drop 10) (by omega)
          show (_ :: (scan (l.drop 10)).1).length ≤ _
          rw [List.length_cons]
          omega
        · rw [scan_miss h10 e]
          have hl : (l.drop 1).length = l.length - 1 := List.length_drop
          have := ih (l.drop 1) (by omega)
          show (scan (l.drop 1)).1.length ≤ _
          omega
  exact main _ l (Nat.le_refl _)
theorem parts_arg {u : AV} (h : isArg tt 53 u) : ∃ (m : Nat) (g : Nat → List AV) (ls : Nat → List Int), u = .i 1 m g ∧ m < 281474976710656 ∧ ∀ k, k < m → g k = [row eY (ls k)] ∧ bytesOk (ls k) = true := by
  obtain ⟨m, g, e, hm, hg, hz⟩ := h
  obtain rfl := (List.cons.inj e).1
  have : ∀ k, ∃ l : List Int, k < m → g k = [row eY l] ∧ bytesOk l = true := fun k => by
    by_cases hk : k < m
    · obtain ⟨m', g', e', hm', hg', hz'⟩ := hg k hk
      obtain ⟨l, e1, h1, h2⟩ := row_eq eY (m := m') (g := g') (p := fun x => 0 ≤ x ∧ x ≤ 255) (fun k hk => by obtain ⟨z, hz, hw⟩ := hg' k hk; exact ⟨z, hz, wf_u8 hw⟩) hz' (by have : m' * 1 < 281474976710656 := hm'; omega)
      refine ⟨l, fun _ => ⟨by rw [← e1]; exact e', ?_⟩⟩
      simp only [bytesOk, List.all_eq_true, Bool.and_eq_true, decide_eq_true_eq]
      exact fun x hx => by have := h2 x hx; omega
    · exact ⟨[], fun h => absurd h hk⟩
  obtain ⟨ls, hls⟩ := Classical.axiomOfChoice this
  exact ⟨m, g, ls, rfl, by have : m * 1 < 281474976710656 := hm; omega, hls⟩
noncomputable def XFF : Cx := ((XFB.add 30 (.foot footL) (localCtr feedG)).add 31 (.foot footL) (localCtr rfeedG)).add 32 (.reads readsL) (borCtr sameFG)
theorem XFF_ok : CxOk Try.prog XFF := ((XFB_ok.loc feed_ok).loc rfeed_ok).bor sameF_ok
theorem FrameFeeds (us : List AV) (h : areArgs tt [53] us) : runF XFF Try.f9 us [] (boo true) [] := by
  obtain ⟨_, _, rfl, hp, rfl⟩ := h
  obtain ⟨m, g, ls, rfl, hm, hg⟩ := parts_arg hp
  clear hp
  unfold runF
  (conv => arg 1; whnf); (repeat' (first | (refine brt (by assumption) ?_; (conv => arg 1; whnf)) | (refine brf (by assumption) ?_; (conv => arg 1; whnf)) | fail))
  refine br (fun h => ?_) (fun h => ?_)
  · (conv => arg 1; whnf); (repeat' (first | (refine brt (by assumption) ?_; (conv => arg 1; whnf)) | (refine brf (by assumption) ?_; (conv => arg 1; whnf)) | fail))
    exact finB rfl
  · have h60 := of_decide_eq_false h
    (conv => arg 1; whnf); (repeat' (first | (refine brt (by assumption) ?_; (conv => arg 1; whnf)) | (refine brf (by assumption) ?_; (conv => arg 1; whnf)) | fail))
    refine loopInC (fun x : List Int × Nat × Nat => x.2.2 ≤ m ∧ x.2.1 ≤ x.1.length ∧ (x.1.drop x.2.1).length < 10 ∧ bytesOk x.1 = true ∧ x.1.length < 1000) (fun x => frm 73 [(3, .p 0 0), (4, .s 2 1 x.2.1 (x.1.length - x.2.1)), (22, .i 1 m fun k => [row eY (ls k)]), (23, i64 m), (24, i64 x.2.2)]) (fun x => [.lit [.s 1 1 0 (x.1.drop x.2.1).length], tabl eY (x.1.drop x.2.1), tabl eY x.1]) (fun x => m - x.2.2) ([], 0, 0) ⟨Nat.zero_le _, Nat.zero_le _, by decide, rfl, by decide⟩
      (.cell 0 0 1 _ _ _ rfl rfl (by decide) .nil (.mk [0, 2, 1] (by decide) ?_ ?_ rfl)) fun x hi => ?_
    · repeat' (first | exact True.intro | exact Fit.dead _ | exact Fit.v _ | exact .s rfl | exact .p rfl | refine And.intro ?_ ?_)
      exact .i fun k hk => (hg k hk).1.symm
    · exact ⟨⟨_, rfl, .lit ⟨.s rfl, trivial⟩⟩, ⟨_, rfl, .tab fun k hk => absurd hk (Nat.not_lt_zero k)⟩, ⟨_, rfl, .tab fun k hk => absurd hk (Nat.not_lt_zero k)⟩, trivial⟩
    · obtain ⟨B, q, k⟩ := x
      obtain ⟨hk, hq, hr, hB, hBl⟩ := hi
      have hk : k ≤ m := hk
      have hq : q ≤ B.length := hq
      have hr : (B.drop q).length < 10 := hr
      have hB : bytesOk B = true := hB
      have hBl : B.length < 1000 := hBl
      have hdl : (B.drop q).length = B.length - q := List.length_drop
      (conv => arg 1; whnf)
      refine br (fun h => ?_) (fun h => ?_)
      · have hkm : (k : Int) < (m : Int) := of_decide_eq_true h
        have e1 : (decide (0 ≤ (k : Int)) && decide ((k : Int) < (m : Int))) = true := by simp only [Bool.and_eq_true, decide_eq_true_eq]; omega
        have hPb : bytesOk (ls ((k : Int)).toNat) = true := (hg k (by omega)).2
        (conv => arg 1; whnf); (repeat' (first | (refine brt (by assumption) ?_; (conv => arg 1; whnf)) | (refine brf (by assumption) ?_; (conv => arg 1; whnf)) | fail))
        generalize ls ((k : Int)).toNat = P at hPb ⊢
        refine br (fun h300 => ?_) (fun h300 => ?_)
        · (conv => arg 1; whnf)
          refine leaveRet ?_
          show tr _
          (conv => arg 1; whnf); (repeat' (first | (refine brt (by assumption) ?_; (conv => arg 1; whnf)) | (refine brf (by assumption) ?_; (conv => arg 1; whnf)) | fail))
          exact finB rfl
        have h300 : ¬ 300 < (P.length : Int) := of_decide_eq_false h300
        have f2 : ((0 + 0).ble 0 && (true && (0 + P.length).ble 4294967295)) = true := by simp [Nat.ble_eq]; omega
        obtain ⟨L, hL⟩ : ∃ L, L = B.drop q ++ P := ⟨_, rfl⟩
        have rA := RowIs.all eY (RowIs.row eY (B.drop q))
        have rP := RowIs.all eY (RowIs.joined eY (RowIs.nil eY (fun k => cut te5.size (zrow te5.zero (0 * te5.size)) (0 + k))) (RowIs.row eY P))
        rw [List.nil_append] at rP
        (conv => arg 1; whnf); (repeat' (first | (refine brt (by assumption) ?_; (conv => arg 1; whnf)) | (refine brf (by assumption) ?_; (conv => arg 1; whnf)) | fail))
        have hA : (Nat.ble (0 + (B.drop q).length) (B.drop q).length && Nat.ble (0 + (0 + P.length)) (0 + P.length)) = true := by simp [Nat.ble_eq]
        have hS : (Nat.ble (B.drop q).length 100000 && Nat.ble (0 + P.length) 100000) = true := by simp [Nat.ble_eq]; omega
        have hD : bytesOk (B.drop q) = true := by
          simp only [bytesOk, List.all_eq_true] at hB ⊢
          exact fun x hx => hB x (List.mem_of_mem_drop hx)
        (refine brt ?_ ?_; (focus (exact and2 (and2 (and2 hA (and2 (rowT (e := eY) rA (by omega)) (rowT (e := eY) rP (by omega)))) (and2 ((congrArg bytesOk (RowIs.rows eY rA)).trans hD) ((congrArg bytesOk (RowIs.rows eY rP)).trans hPb))) hS; done)); (conv => arg 1; whnf))
        rw [RowIs.rows eY rA, RowIs.rows eY rP, show B.drop q ++ P = L from hL.symm]
        have hLb : bytesOk L = true := by
          rw [hL]
          simp only [bytesOk, List.all_append, Bool.and_eq_true] at hD hPb ⊢
          exact ⟨hD, hPb⟩
        have hLl : L.length = (B.length - q) + P.length := by rw [hL, List.length_append, hdl]
        obtain ⟨hs1, hs2, hs3⟩ := scan_rest L
        have hLL : ([] ++ (B.drop q).take (B.length - q)) ++ P = L := by rw [List.nil_append, List.take_of_length_le (by omega), hL]
        clear hL
        (conv => arg 1; whnf); (repeat' (first | (refine brt (by assumption) ?_; (conv => arg 1; whnf)) | (refine brf (by assumption) ?_; (conv => arg 1; whnf)) | fail))
        refine loopIn (fun y : List Int × Nat => y.1.length = P.length ∧ y.2 ≤ P.length) (fun y => frm 73 [(3, .p 0 0), (4, .s 2 1 q (B.length - q)), (6, row eY P), (7, .s 4 1 0 P.length), (8, .s 3 6 0 (scan L).1.length), (9, i64 (scan L).2.1), (22, .i 1 m fun k => [row eY (ls k)]), (23, i64 m), (24, i64 k), (41, i64 P.length), (42, i64 y.2)]) (fun y => [.lit [.s 1 1 0 (scan L).2.2.length], tabl eY (scan L).2.2, tabl eY B, tabl eFr (scan L).1, tabl eY y.1]) (fun y => P.length - y.2) (P, 0) [0, 5, 2, 6, 4] ⟨rfl, Nat.zero_le _⟩ (by decide) ?_ ?_ rfl fun y hi => ?_
        · repeat' (first | exact True.intro | exact Fit.dead _ | exact Fit.v _ | exact .s rfl | exact .p rfl | exact row_self eY _ | exact .i fun _ _ => rfl | refine And.intro ?_ ?_)
          · exact fit_s rfl rfl (by omega)
          · exact Fit.v' (congrArg (fun n : Nat => Value.int .i64 (n : Int)) (Nat.zero_add _).symm)
        · refine ⟨⟨_, rfl, .lit ⟨.s rfl, trivial⟩⟩, ⟨_, rfl, .tab fun _ _ => rfl⟩, ⟨_, rfl, .tab fun _ _ => rfl⟩, ⟨_, rfl, .tab fun _ _ => rfl⟩, ⟨_, rfl, ?_⟩, trivial⟩
          exact fit_tab (e := eY) (RowIs.joined eY (RowIs.nil eY _) (RowIs.row eY P))
        · obtain ⟨C, j⟩ := y
          obtain ⟨hC, hj⟩ := hi
          have hC : C.length = P.length := hC
          have hj : j ≤ P.length := hj
          (conv => arg 1; whnf)
          refine br (fun h => ?_) (fun h => ?_)
          · have hjl : (j : Int) < (P.length : Int) := of_decide_eq_true h
            have g1 : (decide (0 ≤ (j : Int)) && decide ((j : Int) < (P.length : Int))) = true := by simp only [Bool.and_eq_true, decide_eq_true_eq]; omega
            have g2 : decide (0 + ((j : Int)).toNat < C.length) = true := decide_eq_true (by omega)
            (conv => arg 1; whnf); (repeat' (first | (refine brt (by assumption) ?_; (conv => arg 1; whnf)) | (refine brf (by assumption) ?_; (conv => arg 1; whnf)) | fail))
            refine again (C.set j (bits .xor .u8 (C.getD j 0) 255), j + 1) [0, 1, 2, 3, 4] ⟨by show (C.set _ _).length = _; rw [List.length_set]; exact hC, by show j + 1 ≤ _; omega⟩ (by show P.length - (j + 1) < P.length - j; omega) (by decide) ?_ ?_ rfl
            · repeat' (first | exact True.intro | exact Fit.dead _ | exact Fit.v _ | exact .s rfl | exact .p rfl | exact row_self eY _ | exact .i fun _ _ => rfl | refine And.intro ?_ ?_)
              exact Fit.v' (congrArg (Value.int .i64) (nxt j (by omega)).symm)
            · refine ⟨⟨_, rfl, .lit ⟨.s rfl, trivial⟩⟩, ⟨_, rfl, .tab fun _ _ => rfl⟩, ⟨_, rfl, .tab fun _ _ => rfl⟩, ⟨_, rfl, .tab fun _ _ => rfl⟩, ⟨_, rfl, ?_⟩, trivial⟩
              exact fit_tab (e := eY) (RowIs.put eY (RowIs.row eY C) (by omega) (by omega) (by rw [show 0 + (j : Int).toNat = j by omega]; rfl))
          · (conv => arg 1; whnf)
            refine leave ?_
            show tr _
            have f3 : ((0 + 0).ble 0 && ((q + (B.length - q)).ble B.length && (0 + (B.length - q)).ble 4294967295)) = true := by simp [Nat.ble_eq]; omega
            have f4 : ((0 + (0 + (B.length - q))).ble (0 + (B.length - q)) && (true && (0 + (B.length - q) + P.length).ble 4294967295)) = true := by simp [Nat.ble_eq]; omega
            have r3 := RowIs.joined eY (RowIs.all eY (RowIs.joined eY (RowIs.nil eY (fun k => cut te5.size (zrow te5.zero (0 * te5.size)) (0 + k))) (RowIs.part eY (RowIs.row eY B) (o := q) (m := B.length - q) (by omega)))) (RowIs.row eY P)
            rw [hLL] at r3
            have hN : Nat.ble (0 + (B.length - q) + P.length) 1000000 = true := by simp [Nat.ble_eq]; omega
            (conv => arg 1; whnf); (repeat' (first | (refine brt (by assumption) ?_; (conv => arg 1; whnf)) | (refine brf (by assumption) ?_; (conv => arg 1; whnf)) | fail))
            (refine brt ?_ ?_; (focus (exact and2 (and2 (and2 (Nat.beq_refl _) (rowT (e := eY) r3 (by omega))) ((congrArg bytesOk (RowIs.rows eY r3)).trans hLb)) hN; done)); (conv => arg 1; whnf))
            rw [RowIs.rows eY r3]
            have hsl := scan_len L
            have rF := RowIs.all eFr (RowIs.row eFr (scan L).1)
            (conv => arg 1; whnf); (repeat' (first | (refine brt (by assumption) ?_; (conv => arg 1; whnf)) | (refine brf (by assumption) ?_; (conv => arg 1; whnf)) | fail))
            (refine brt ?_ ?_; (focus (exact and2 (bor2 rfl (Nat.le_of_eq (Nat.zero_add _)) rfl (Nat.le_of_eq (Nat.zero_add _))) (and2 (and2 rfl (rowT (e := eFr) rF (by omega))) (rowT (e := eFr) rF (by omega))); done)); (conv => arg 1; whnf))
            have f5 : (!frEq (rows eFr (scan L).1.length fun k => eFr.enc ((scan L).1.getD (0 + k) eFr.dflt)) (rows eFr (scan L).1.length fun k => eFr.enc ((scan L).1.getD (0 + k) eFr.dflt))) = false := by rw [frEq_yes rfl]; rfl
            have f6 : (!decide ((scan L).2.1 = (scan L).2.1)) = false := by simp
            (conv => arg 1; whnf); (repeat' (first | (refine brt (by assumption) ?_; (conv => arg 1; whnf)) | (refine brf (by assumption) ?_; (conv => arg 1; whnf)) | fail))
            refine again (L, L.length - (scan L).2.2.length, k + 1) [0, 1, 7] ⟨by show k + 1 ≤ m; omega, Nat.sub_le _ _, by show (L.drop (L.length - (scan L).2.2.length)).length < 10; rw [← hs1]; exact hs2, hLb, by show L.length < 1000; omega⟩ (by show m - (k + 1) < m - k; omega) (by decide) ?_ ?_ rfl
            · repeat' (first | exact True.intro | exact Fit.dead _ | exact Fit.v _ | exact .p rfl | exact .i fun _ _ => rfl | refine And.intro ?_ ?_)
              · exact fit_s rfl rfl (Nat.sub_sub_self hs3)
              · exact Fit.v' (congrArg (Value.int .i64) (nxt k (by omega)).symm)
            · refine ⟨⟨_, rfl, .lit ⟨?_, trivial⟩⟩, ⟨_, rfl, ?_⟩, ⟨_, rfl, ?_⟩, trivial⟩
              · show Fit _ _ (.s 1 1 0 (L.drop (L.length - (scan L).2.2.length)).length) (.s 1 1 0 (scan L).2.2.length)
                rw [← hs1]
                exact .s rfl
              · show FitB _ _ (tabl eY (L.drop (L.length - (scan L).2.2.length))) (tabl eY (scan L).2.2)
                rw [← hs1]
                exact .tab fun _ _ => rfl
              · exact fit_tab (e := eY) r3
      · (conv => arg 1; whnf)
        refine leave ?_
        show tr _
        (conv => arg 1; whnf); (repeat' (first | (refine brt (by assumption) ?_; (conv => arg 1; whnf)) | (refine brf (by assumption) ?_; (conv => arg 1; whnf)) | fail))
        exact finB rfl
end Go.Proofs.Ytaneamfnjhiigaa.E
