/- The law CallsActs, by the engine. -/
import Derived.Test.YtbilkjolopdeiaaCallsBookE
namespace Go.Proofs.Ytbilkjolopdeiaa.E
open Go NumMath
set_option linter.unusedSimpArgs false
set_option linter.unusedVariables false
set_option maxRecDepth 100000
set_option maxHeartbeats 8000000
noncomputable def XAC0 : Cx := (((((((XCL6.add 35 (.foot footL) (localCtr lampsG)).add 37 (.foot footL) (localCtr barredG)).add 30 (.foot rbFoot) (rbCtr pressB)).add 31 (.foot rbFoot) (rbCtr barB)).add 32 (.foot rbFoot) (rbCtr tickB)).add 34 (.foot rbFoot) (rbCtr servedB)).add 33 (.reads readsL) (borCtr sameCG)).add 36 .pure (pureCtr hasG)
theorem XAC0_ok : CxOk Try.prog XAC0 := (((((((XCL6_ok.loc lamps_ok).loc barred_ok).rb pressB_ok).rb barB_ok).rb tickB_ok).rb servedB_ok).bor sameC_ok).pure has_ok
noncomputable def XAC : Cx := ((XAC0.join 100002).join 200033).join 200034
theorem XAC_ok : CxOk Try.prog XAC := ((XAC0_ok.join 100002 rfl).join 200033 rfl).join 200034 rfl
theorem CallsActs (us : List AV) (h : areArgs tt [23, 55] us) : runF XAC Try.f10 us [] (boo true) [] := by
  obtain ⟨_, _, rfl, hs, _, _, rfl, ha, rfl⟩ := h
  obtain ⟨s, rfl⟩ := site_arg hs
  obtain ⟨acts, rfl, hal⟩ := acts_arg ha
  clear hs ha
  unfold runF
  (conv => arg 1; whnf); (repeat' (first | (refine brt (by assumption) ?_; (conv => arg 1; whnf)) | (refine brf (by assumption) ?_; (conv => arg 1; whnf)) | fail))
  refine br (fun h => ?_) (fun h => ?_)
  · (conv => arg 1; whnf); (repeat' (first | (refine brt (by assumption) ?_; (conv => arg 1; whnf)) | (refine brf (by assumption) ?_; (conv => arg 1; whnf)) | fail))
    exact finB rfl
  · have hs : s.right = true := by
      have h : (!s.right) = false := h
      simpa using h
    (conv => arg 1; whnf); (repeat' (first | (refine brt (by assumption) ?_; (conv => arg 1; whnf)) | (refine brf (by assumption) ?_; (conv => arg 1; whnf)) | fail))
    refine br (fun h1 => ?_) (fun h1 => ?_)
    · (conv => arg 1; whnf); (repeat' (first | (refine brt (by assumption) ?_; (conv => arg 1; whnf)) | (refine brf (by assumption) ?_; (conv => arg 1; whnf)) | fail))
      exact finB rfl
    · have hn : acts.length ≤ 400 := by have := of_decide_eq_false h1; omega
      have h64 : decide (s.fl ≤ 64) = true := decide_eq_true (right_fl hs).2
      (conv => arg 1; whnf); (repeat' (first | (refine brt (by assumption) ?_; (conv => arg 1; whnf)) | (refine brf (by assumption) ?_; (conv => arg 1; whnf)) | fail))
      refine loopInC (fun x : Nat × List Call × Int × List Bool => x.1 ≤ acts.length ∧ Both x.1 x.2.1 x.2.2.1 x.2.2.2) (fun x => frm 213 [(5, .p 0 0), (6, .p 2 0), (35, row eAct acts), (36, i64 acts.length), (37, i64 x.1)]) (fun x => [.lit (bookC s 1 x.2.1.length x.2.2.1), tabl eC x.2.1, .lit (rbookC s 3 x.2.1.length x.2.2.2), tabl eC x.2.1]) (fun x => acts.length - x.1) (0, [], 0, List.replicate 64 false) ⟨Nat.zero_le _, .nil⟩ (.cell 1 13 4 _ _ _ rfl rfl (by decide) .nil (.mk [2, 3, 1, 4] (by decide) ?_ ?_ rfl)) fun x hi => ?_
      · repeat' (first | exact True.intro | exact Fit.dead _ | exact Fit.v _ | exact row_self eAct acts | exact .p rfl | refine And.intro ?_ ?_)
      · exact ⟨⟨_, rfl, .lit (by repeat' (first | exact True.intro | exact Fit.dead _ | exact Fit.v _ | exact .i fun _ _ => rfl | exact Fit.ip | exact .p rfl | exact .q rfl | exact .s rfl | exact .y rfl | refine Fit.al ?_ | refine Fit.fl ?_ ?_ | refine And.intro ?_ ?_))⟩, ⟨_, rfl, .tab fun k hk => absurd hk (Nat.not_lt_zero k)⟩, ⟨_, rfl, .lit (fitRBook rfl rfl)⟩, ⟨_, rfl, .tab fun k hk => absurd hk (Nat.not_lt_zero k)⟩, trivial⟩
      · obtain ⟨k, L, b, bl⟩ := x
        obtain ⟨hk, hL⟩ := hi
        simp only at hk hL
        have b1 := bookOk hL.fine.len
        (conv => arg 1; whnf)
        refine br (fun h => ?_) (fun h => ?_)
        · have hlt : k < acts.length := by have := of_decide_eq_true h; simp only at this; omega
          have e1 : decide ((k : Int).toNat < acts.length) = true := decide_eq_true (by omega)
          have e2 : (decide (0 ≤ (k : Int)) && decide ((k : Int) < (acts.length : Int))) = true := by simp only [Bool.and_eq_true, decide_eq_true_eq]; omega
          have hR := rows_row eC L
          have hLl := hL.fine.len
          have rb : boolsOk (bl.map boo) = true := by unfold boolsOk; rw [rdBools_map]; show Nat.beq bl.length 64 = true; rw [hL.len]; rfl
          have b1' : (Nat.beq L.length L.length && (isRow eC L.length 4 (fun k => eC.enc (L.getD k eC.dflt)) && (Nat.ble L.length 128 && boolsOk (bl.map boo)))) = true := by
            have := b1
            simp only [Bool.and_eq_true] at this ⊢
            exact ⟨this.1, this.2.1, this.2.2, rb⟩
          have b2 := and2 h64 b1'
          have b3 := and2 (a := true) rfl b1'
          (conv => arg 1; whnf); (repeat' (first | (refine brt (by assumption) ?_; (conv => arg 1; whnf)) | (refine brf (by assumption) ?_; (conv => arg 1; whnf)) | fail))
          refine joinIn (fun y : List Call × Int × List Bool => Both (k + 1) y.1 y.2.1 y.2.2) (fun y => frm 213 [(5, .p 0 0), (6, .p 2 0), (9, .p 4 0), (35, row eAct acts), (36, i64 acts.length), (37, i64 k)])
            (fun y => [.lit (bookC s 1 y.1.length y.2.1), tabl eC y.1, .lit (rbookC s 3 y.1.length y.2.2), tabl eC y.1, .lit (acts.getD (k : Int).toNat eAct.dflt).c.cs]) ?_ (fun y hy => ?_)
          · (conv => arg 1; whnf); (repeat' (first | (refine brt (by assumption) ?_; (conv => arg 1; whnf)) | (refine brf (by assumption) ?_; (conv => arg 1; whnf)) | fail))
            refine br (fun h2 => ?_) (fun h2 => ?_)
            · (conv => arg 1; whnf); (repeat' (first | (refine brt (by assumption) ?_; (conv => arg 1; whnf)) | (refine brf (by assumption) ?_; (conv => arg 1; whnf)) | fail))
              refine br (fun h3 => ?_) (fun h3 => ?_)
              · exfalso
                have h3 : (!(decide ((pressL s (rows eC L.length fun k => eC.enc (L.getD k eC.dflt)) b (acts.getD (k : Int).toNat eAct.dflt).c).1 = (pressF s (rows eC L.length fun k => eC.enc (L.getD k eC.dflt)) (fun f => (bools (bl.map boo)).getD f.toNat false) (acts.getD (k : Int).toNat eAct.dflt).c).1))) = true := h3
                rw [rows_row, bools_map, (hL.press hs (acts.getD (k : Int).toNat eAct.dflt).c).1] at h3
                simp at h3
              · (conv => arg 1; whnf); (repeat' (first | (refine brt (by assumption) ?_; (conv => arg 1; whnf)) | (refine brf (by assumption) ?_; (conv => arg 1; whnf)) | fail))
                refine joinTo ((pressL s L b (acts.getD (k : Int).toNat eAct.dflt).c).2, b, bl) [0, 6, 2, 7, 5] (hL.press hs (acts.getD (k : Int).toNat eAct.dflt).c).2 (by decide) ?_ ?_ rfl
                · repeat' (first | exact True.intro | exact Fit.dead _ | exact Fit.v _ | exact row_self eAct acts | exact .p rfl | exact .s rfl | exact fit_s rfl rfl (by rw [rows_row]) | refine And.intro ?_ ?_)
                · refine ⟨⟨_, rfl, .lit ?_⟩, ⟨_, rfl, ?_⟩, ⟨_, rfl, ?_⟩, ⟨_, rfl, ?_⟩, ⟨_, rfl, .lit (by repeat' (first | exact True.intro | exact Fit.dead _ | exact Fit.v _ | exact .i fun _ _ => rfl | exact Fit.ip | exact .p rfl | exact .q rfl | exact .s rfl | exact .y rfl | refine Fit.al ?_ | refine Fit.fl ?_ ?_ | refine And.intro ?_ ?_))⟩, trivial⟩
                  · repeat' (first | exact True.intro | exact Fit.v _ | exact fit_s rfl rfl (show (pressL s L b (acts.getD (k : Int).toNat eAct.dflt).c).2.length = (pressL s (rows eC L.length fun k => eC.enc (L.getD k eC.dflt)) b (acts.getD (k : Int).toNat eAct.dflt).c).2.length by rw [rows_row]) | refine And.intro ?_ ?_)
                  · show FitB _ _ (tabl eC (pressL s L b (acts.getD (k : Int).toNat eAct.dflt).c).2) (tabl eC (pressL s (rows eC L.length fun k => eC.enc (L.getD k eC.dflt)) b (acts.getD (k : Int).toNat eAct.dflt).c).2)
                    rw [rows_row]
                    exact .tab fun _ _ => rfl
                  · show FitB [0, 6, 2, 7, 5] _ (.lit (rbookC s 3 (pressL s L b (acts.getD (k : Int).toNat eAct.dflt).c).2.length bl)) (.lit (rbookC s 7 (pressF s (rows eC L.length fun k => eC.enc (L.getD k eC.dflt)) (fun f => (bools (bl.map boo)).getD f.toNat false) (acts.getD (k : Int).toNat eAct.dflt).c).2.length (bools (bl.map boo))))
                    rw [rows_row, bools_map, (hL.press hs (acts.getD (k : Int).toNat eAct.dflt).c).1]
                    exact .lit (fitRBook rfl rfl)
                  · show FitB _ _ (tabl eC (pressL s L b (acts.getD (k : Int).toNat eAct.dflt).c).2) (tabl eC (pressF s (rows eC L.length fun k => eC.enc (L.getD k eC.dflt)) (fun f => (bools (bl.map boo)).getD f.toNat false) (acts.getD (k : Int).toNat eAct.dflt).c).2)
                    rw [rows_row, bools_map, (hL.press hs (acts.getD (k : Int).toNat eAct.dflt).c).1]
                    exact .tab fun _ _ => rfl
            · (conv => arg 1; whnf); (repeat' (first | (refine brt (by assumption) ?_; (conv => arg 1; whnf)) | (refine brf (by assumption) ?_; (conv => arg 1; whnf)) | fail))
              refine br (fun h3 => ?_) (fun h3 => ?_)
              · (conv => arg 1; whnf); (repeat' (first | (refine brt (by assumption) ?_; (conv => arg 1; whnf)) | (refine brf (by assumption) ?_; (conv => arg 1; whnf)) | fail))
                refine br (fun h4 => ?_) (fun h4 => ?_)
                · exfalso
                  have h4 : (!(decide ((barL s b (acts.getD (k : Int).toNat eAct.dflt).c.fl (acts.getD (k : Int).toNat eAct.dflt).c.up).1 = (rbarL s (bools (bl.map boo)) (acts.getD (k : Int).toNat eAct.dflt).c.fl (acts.getD (k : Int).toNat eAct.dflt).c.up).1))) = true := h4
                  rw [bools_map, (hL.barred hs (acts.getD (k : Int).toNat eAct.dflt).c.fl (acts.getD (k : Int).toNat eAct.dflt).c.up).1] at h4
                  simp at h4
                · (conv => arg 1; whnf); (repeat' (first | (refine brt (by assumption) ?_; (conv => arg 1; whnf)) | (refine brf (by assumption) ?_; (conv => arg 1; whnf)) | fail))
                  refine joinTo (L, (barL s b (acts.getD (k : Int).toNat eAct.dflt).c.fl (acts.getD (k : Int).toNat eAct.dflt).c.up).2, (rbarL s bl (acts.getD (k : Int).toNat eAct.dflt).c.fl (acts.getD (k : Int).toNat eAct.dflt).c.up).2) [0, 1, 2, 3, 5] (hL.barred hs (acts.getD (k : Int).toNat eAct.dflt).c.fl (acts.getD (k : Int).toNat eAct.dflt).c.up).2 (by decide) ?_ ?_ rfl
                  · repeat' (first | exact True.intro | exact Fit.dead _ | exact Fit.v _ | exact row_self eAct acts | exact .p rfl | exact .s rfl | exact fit_s rfl rfl (by rw [rows_row]) | refine And.intro ?_ ?_)
                  · refine ⟨⟨_, rfl, .lit ?_⟩, ⟨_, rfl, .tab fun _ _ => rfl⟩, ⟨_, rfl, ?_⟩, ⟨_, rfl, .tab fun _ _ => rfl⟩, ⟨_, rfl, .lit (by repeat' (first | exact True.intro | exact Fit.dead _ | exact Fit.v _ | exact .i fun _ _ => rfl | exact Fit.ip | exact .p rfl | exact .q rfl | exact .s rfl | exact .y rfl | refine Fit.al ?_ | refine Fit.fl ?_ ?_ | refine And.intro ?_ ?_))⟩, trivial⟩
                    · repeat' (first | exact True.intro | exact Fit.v _ | exact .s rfl | exact fit_s rfl rfl (show L.length = (rows eC L.length fun k => eC.enc (L.getD k eC.dflt)).length by rw [rows_row]) | refine And.intro ?_ ?_)
                    · show FitB [0, 1, 2, 3, 5] _ (.lit (rbookC s 3 L.length (rbarL s bl (acts.getD (k : Int).toNat eAct.dflt).c.fl (acts.getD (k : Int).toNat eAct.dflt).c.up).2)) (.lit (rbookC s 3 L.length (rbarL s (bools (bl.map boo)) (acts.getD (k : Int).toNat eAct.dflt).c.fl (acts.getD (k : Int).toNat eAct.dflt).c.up).2))
                      rw [bools_map]
                      exact .lit (fitRBook rfl rfl)
              · (conv => arg 1; whnf); (repeat' (first | (refine brt (by assumption) ?_; (conv => arg 1; whnf)) | (refine brf (by assumption) ?_; (conv => arg 1; whnf)) | fail))
                refine br (fun h4 => ?_) (fun h4 => ?_)
                · (conv => arg 1; whnf); (repeat' (first | (refine brt (by assumption) ?_; (conv => arg 1; whnf)) | (refine brf (by assumption) ?_; (conv => arg 1; whnf)) | fail))
                  refine joinTo (L.map tickC, b, bl) [0, 1, 2, 6, 5] (hL.tick (by omega)).2 (by decide) ?_ ?_ rfl
                  · repeat' (first | exact True.intro | exact Fit.dead _ | exact Fit.v _ | exact row_self eAct acts | exact .p rfl | exact .s rfl | exact fit_s rfl rfl (by rw [rows_row]) | refine And.intro ?_ ?_)
                  · refine ⟨⟨_, rfl, .lit ?_⟩, ⟨_, rfl, ?_⟩, ⟨_, rfl, ?_⟩, ⟨_, rfl, ?_⟩, ⟨_, rfl, .lit (by repeat' (first | exact True.intro | exact Fit.dead _ | exact Fit.v _ | exact .i fun _ _ => rfl | exact Fit.ip | exact .p rfl | exact .q rfl | exact .s rfl | exact .y rfl | refine Fit.al ?_ | refine Fit.fl ?_ ?_ | refine And.intro ?_ ?_))⟩, trivial⟩
                    · repeat' (first | exact True.intro | exact Fit.v _ | exact fit_s rfl rfl (show (L.map tickC).length = L.length by simp) | exact fit_s rfl rfl (show (L.map tickC).length = (rows eC L.length fun k => eC.enc (L.getD k eC.dflt)).length by rw [rows_row]; simp) | refine And.intro ?_ ?_)
                    · show FitB _ _ (tabl eC (L.map tickC)) (tabl eC ((rows eC L.length fun k => eC.enc (L.getD k eC.dflt)).map tickC))
                      rw [rows_row]
                      exact .tab fun _ _ => rfl
                    · show FitB [0, 1, 2, 6, 5] _ (.lit (rbookC s 3 (L.map tickC).length bl)) (.lit (rbookC s 6 ((rows eC L.length fun k => eC.enc (L.getD k eC.dflt)).map rtickC).length (bools (bl.map boo))))
                      rw [rows_row, bools_map, (hL.tick (by omega)).1]
                      exact .lit (fitRBook rfl rfl)
                    · show FitB _ _ (tabl eC (L.map tickC)) (tabl eC ((rows eC L.length fun k => eC.enc (L.getD k eC.dflt)).map rtickC))
                      rw [rows_row, (hL.tick (by omega)).1]
                      exact .tab fun _ _ => rfl
                · (conv => arg 1; whnf); (repeat' (first | (refine brt (by assumption) ?_; (conv => arg 1; whnf)) | (refine brf (by assumption) ?_; (conv => arg 1; whnf)) | fail))
                  have r1 : RowIs eC ((rows eC L.length fun k => eC.enc (L.getD k eC.dflt)).filter (serveB (acts.getD (k : Int).toNat eAct.dflt).c.ca (acts.getD (k : Int).toNat eAct.dflt).c.fl (acts.getD (k : Int).toNat eAct.dflt).c.up (acts.getD (k : Int).toNat eAct.dflt).dn)).length (fun j => eC.enc (((rows eC L.length fun k => eC.enc (L.getD k eC.dflt)).filter (serveB (acts.getD (k : Int).toNat eAct.dflt).c.ca (acts.getD (k : Int).toNat eAct.dflt).c.fl (acts.getD (k : Int).toNat eAct.dflt).c.up (acts.getD (k : Int).toNat eAct.dflt).dn)).getD (0 + j) eC.dflt)) ((rows eC L.length fun k => eC.enc (L.getD k eC.dflt)).filter (serveB (acts.getD (k : Int).toNat eAct.dflt).c.ca (acts.getD (k : Int).toNat eAct.dflt).c.fl (acts.getD (k : Int).toNat eAct.dflt).c.up (acts.getD (k : Int).toNat eAct.dflt).dn)) := RowIs.all eC (RowIs.row eC _)
                  have r2 : RowIs eC ((rows eC L.length fun k => eC.enc (L.getD k eC.dflt)).filter (rservB (acts.getD (k : Int).toNat eAct.dflt).c.ca (acts.getD (k : Int).toNat eAct.dflt).c.fl (acts.getD (k : Int).toNat eAct.dflt).c.up (acts.getD (k : Int).toNat eAct.dflt).dn)).length (fun j => eC.enc (((rows eC L.length fun k => eC.enc (L.getD k eC.dflt)).filter (rservB (acts.getD (k : Int).toNat eAct.dflt).c.ca (acts.getD (k : Int).toNat eAct.dflt).c.fl (acts.getD (k : Int).toNat eAct.dflt).c.up (acts.getD (k : Int).toNat eAct.dflt).dn)).getD (0 + j) eC.dflt)) ((rows eC L.length fun k => eC.enc (L.getD k eC.dflt)).filter (rservB (acts.getD (k : Int).toNat eAct.dflt).c.ca (acts.getD (k : Int).toNat eAct.dflt).c.fl (acts.getD (k : Int).toNat eAct.dflt).c.up (acts.getD (k : Int).toNat eAct.dflt).dn)) := RowIs.all eC (RowIs.row eC _)
                  have hl1 : ((rows eC L.length fun k => eC.enc (L.getD k eC.dflt)).filter (serveB (acts.getD (k : Int).toNat eAct.dflt).c.ca (acts.getD (k : Int).toNat eAct.dflt).c.fl (acts.getD (k : Int).toNat eAct.dflt).c.up (acts.getD (k : Int).toNat eAct.dflt).dn)).length ≤ 128 := by rw [rows_row]; exact Nat.le_trans (List.length_filter_le _ _) hLl
                  have hl2 : ((rows eC L.length fun k => eC.enc (L.getD k eC.dflt)).filter (rservB (acts.getD (k : Int).toNat eAct.dflt).c.ca (acts.getD (k : Int).toNat eAct.dflt).c.fl (acts.getD (k : Int).toNat eAct.dflt).c.up (acts.getD (k : Int).toNat eAct.dflt).dn)).length ≤ 128 := by rw [rows_row]; exact Nat.le_trans (List.length_filter_le _ _) hLl
                  have hsv := hL.serve (acts.getD (k : Int).toNat eAct.dflt).c.ca (acts.getD (k : Int).toNat eAct.dflt).c.fl (acts.getD (k : Int).toNat eAct.dflt).c.up (acts.getD (k : Int).toNat eAct.dflt).dn
                  (refine brt ?_ ?_; (focus (exact and2 (bor2 rfl (by omega) rfl (by omega)) (and2 (and2 (by rw [RowIs.rows (l := ((rows eC L.length fun k => eC.enc (L.getD k eC.dflt)).filter (serveB (acts.getD (k : Int).toNat eAct.dflt).c.ca (acts.getD (k : Int).toNat eAct.dflt).c.fl (acts.getD (k : Int).toNat eAct.dflt).c.up (acts.getD (k : Int).toNat eAct.dflt).dn))) eC r1]; exact decide_eq_true (by omega)) (rowT r2 (by omega))) (rowT r1 (by omega))); done)); (conv => arg 1; whnf))
                  rw [RowIs.rows (l := ((rows eC L.length fun k => eC.enc (L.getD k eC.dflt)).filter (serveB (acts.getD (k : Int).toNat eAct.dflt).c.ca (acts.getD (k : Int).toNat eAct.dflt).c.fl (acts.getD (k : Int).toNat eAct.dflt).c.up (acts.getD (k : Int).toNat eAct.dflt).dn))) eC r1, RowIs.rows (l := ((rows eC L.length fun k => eC.enc (L.getD k eC.dflt)).filter (rservB (acts.getD (k : Int).toNat eAct.dflt).c.ca (acts.getD (k : Int).toNat eAct.dflt).c.fl (acts.getD (k : Int).toNat eAct.dflt).c.up (acts.getD (k : Int).toNat eAct.dflt).dn))) eC r2]
                  refine br (fun h5 => ?_) (fun h5 => ?_)
                  · exfalso
                    have h5 : (!(sameC ((rows eC L.length fun k => eC.enc (L.getD k eC.dflt)).filter (serveB (acts.getD (k : Int).toNat eAct.dflt).c.ca (acts.getD (k : Int).toNat eAct.dflt).c.fl (acts.getD (k : Int).toNat eAct.dflt).c.up (acts.getD (k : Int).toNat eAct.dflt).dn)) ((rows eC L.length fun k => eC.enc (L.getD k eC.dflt)).filter (rservB (acts.getD (k : Int).toNat eAct.dflt).c.ca (acts.getD (k : Int).toNat eAct.dflt).c.fl (acts.getD (k : Int).toNat eAct.dflt).c.up (acts.getD (k : Int).toNat eAct.dflt).dn)))) = true := h5
                    rw [rows_row, hsv.1, (sameC_iff _ _).2 rfl] at h5
                    cases h5
                  · (conv => arg 1; whnf); (repeat' (first | (refine brt (by assumption) ?_; (conv => arg 1; whnf)) | (refine brf (by assumption) ?_; (conv => arg 1; whnf)) | fail))
                    refine joinTo ((L.filter fun c => !serveB (acts.getD (k : Int).toNat eAct.dflt).c.ca (acts.getD (k : Int).toNat eAct.dflt).c.fl (acts.getD (k : Int).toNat eAct.dflt).c.up (acts.getD (k : Int).toNat eAct.dflt).dn c), b, bl) [0, 6, 2, 8, 5] hsv.2.2 (by decide) ?_ ?_ rfl
                    · repeat' (first | exact True.intro | exact Fit.dead _ | exact Fit.v _ | exact row_self eAct acts | exact .p rfl | exact .s rfl | exact fit_s rfl rfl (by rw [rows_row]) | refine And.intro ?_ ?_)
                    · refine ⟨⟨_, rfl, .lit ?_⟩, ⟨_, rfl, ?_⟩, ⟨_, rfl, ?_⟩, ⟨_, rfl, ?_⟩, ⟨_, rfl, .lit (by repeat' (first | exact True.intro | exact Fit.dead _ | exact Fit.v _ | exact .i fun _ _ => rfl | exact Fit.ip | exact .p rfl | exact .q rfl | exact .s rfl | exact .y rfl | refine Fit.al ?_ | refine Fit.fl ?_ ?_ | refine And.intro ?_ ?_))⟩, trivial⟩
                      · repeat' (first | exact True.intro | exact Fit.v _ | exact fit_s rfl rfl (show (L.filter fun c => !serveB (acts.getD (k : Int).toNat eAct.dflt).c.ca (acts.getD (k : Int).toNat eAct.dflt).c.fl (acts.getD (k : Int).toNat eAct.dflt).c.up (acts.getD (k : Int).toNat eAct.dflt).dn c).length = ((rows eC L.length fun k => eC.enc (L.getD k eC.dflt)).filter fun c => !serveB (acts.getD (k : Int).toNat eAct.dflt).c.ca (acts.getD (k : Int).toNat eAct.dflt).c.fl (acts.getD (k : Int).toNat eAct.dflt).c.up (acts.getD (k : Int).toNat eAct.dflt).dn c).length by rw [rows_row]) | refine And.intro ?_ ?_)
                      · show FitB _ _ (tabl eC (L.filter fun c => !serveB (acts.getD (k : Int).toNat eAct.dflt).c.ca (acts.getD (k : Int).toNat eAct.dflt).c.fl (acts.getD (k : Int).toNat eAct.dflt).c.up (acts.getD (k : Int).toNat eAct.dflt).dn c)) (tabl eC ((rows eC L.length fun k => eC.enc (L.getD k eC.dflt)).filter fun c => !serveB (acts.getD (k : Int).toNat eAct.dflt).c.ca (acts.getD (k : Int).toNat eAct.dflt).c.fl (acts.getD (k : Int).toNat eAct.dflt).c.up (acts.getD (k : Int).toNat eAct.dflt).dn c))
                        rw [rows_row]
                        exact .tab fun _ _ => rfl
                      · show FitB [0, 6, 2, 8, 5] _ (.lit (rbookC s 3 (L.filter fun c => !serveB (acts.getD (k : Int).toNat eAct.dflt).c.ca (acts.getD (k : Int).toNat eAct.dflt).c.fl (acts.getD (k : Int).toNat eAct.dflt).c.up (acts.getD (k : Int).toNat eAct.dflt).dn c).length bl)) (.lit (rbookC s 8 ((rows eC L.length fun k => eC.enc (L.getD k eC.dflt)).filter fun c => !rservB (acts.getD (k : Int).toNat eAct.dflt).c.ca (acts.getD (k : Int).toNat eAct.dflt).c.fl (acts.getD (k : Int).toNat eAct.dflt).c.up (acts.getD (k : Int).toNat eAct.dflt).dn c).length (bools (bl.map boo))))
                        rw [rows_row, bools_map, hsv.2.1]
                        exact .lit (fitRBook rfl rfl)
                      · show FitB _ _ (tabl eC (L.filter fun c => !serveB (acts.getD (k : Int).toNat eAct.dflt).c.ca (acts.getD (k : Int).toNat eAct.dflt).c.fl (acts.getD (k : Int).toNat eAct.dflt).c.up (acts.getD (k : Int).toNat eAct.dflt).dn c)) (tabl eC ((rows eC L.length fun k => eC.enc (L.getD k eC.dflt)).filter fun c => !rservB (acts.getD (k : Int).toNat eAct.dflt).c.ca (acts.getD (k : Int).toNat eAct.dflt).c.fl (acts.getD (k : Int).toNat eAct.dflt).c.up (acts.getD (k : Int).toNat eAct.dflt).dn c))
                        rw [rows_row, hsv.2.1]
                        exact .tab fun _ _ => rfl
          · obtain ⟨N, b', bl'⟩ := y
            simp only at hy
            have c1 := bookOk hy.fine.len
            have hNl := hy.fine.len
            have rN : RowIs eC N.length (fun j => eC.enc (N.getD (0 + j) eC.dflt)) N := RowIs.all eC (RowIs.row eC N)
            (conv => arg 1; whnf); (repeat' (first | (refine brt (by assumption) ?_; (conv => arg 1; whnf)) | (refine brf (by assumption) ?_; (conv => arg 1; whnf)) | fail))
            have rM : RowIs eC (rows eC N.length fun k => eC.enc (N.getD k eC.dflt)).length (fun j => eC.enc ((rows eC N.length fun k => eC.enc (N.getD k eC.dflt)).getD (0 + j) eC.dflt)) (rows eC N.length fun k => eC.enc (N.getD k eC.dflt)) := RowIs.all eC (RowIs.row eC _)
            have hRl : (rows eC N.length fun k => eC.enc (N.getD k eC.dflt)).length ≤ 128 := by rw [rows_row]; exact hNl
            (refine brt ?_ ?_; (focus (exact and2 (bor2 rfl (by omega) rfl (by omega)) (and2 (and2 (by rw [RowIs.rows (l := (rows eC N.length fun k => eC.enc (N.getD k eC.dflt))) eC rM]; exact decide_eq_true (by omega)) (rowT rN (by omega))) (rowT rM (by omega))); done)); (conv => arg 1; whnf))
            rw [RowIs.rows (l := (rows eC N.length fun k => eC.enc (N.getD k eC.dflt))) eC rM, RowIs.rows (l := N) eC rN, rows_row eC N, (sameC_iff N N).2 rfl]
            (conv => arg 1; whnf); (repeat' (first | (refine brt (by assumption) ?_; (conv => arg 1; whnf)) | (refine brf (by assumption) ?_; (conv => arg 1; whnf)) | fail))
            refine loopIn (fun f : Nat => f ≤ 64) (fun f => frm 213 [(5, .p 0 0), (6, .p 2 0), (9, .p 4 0), (11, u64 (lamps (acts.getD (k : Int).toNat eAct.dflt).c.ca N).u), (12, u64 (lamps (acts.getD (k : Int).toNat eAct.dflt).c.ca N).d), (13, u64 (lamps (acts.getD (k : Int).toNat eAct.dflt).c.ca N).n), (14, i64 f), (35, row eAct acts), (36, i64 acts.length), (37, i64 k)]) (fun f => [.lit (bookC s 1 N.length b'), tabl eC N, .lit (rbookC s 3 N.length bl'), tabl eC N, .lit (acts.getD (k : Int).toNat eAct.dflt).c.cs]) (fun f => 64 - f) 0 [0, 1, 2, 3, 4] (Nat.zero_le _) (by decide) ?_ ?_ rfl fun f hf => ?_
            · repeat' (first | exact True.intro | exact Fit.dead _ | exact Fit.v _ | exact row_self eAct acts | exact .p rfl | exact .s rfl | exact Fit.v' (by rw [rows_row]) | refine And.intro ?_ ?_)
            · exact ⟨⟨_, rfl, .lit (by repeat' (first | exact True.intro | exact Fit.dead _ | exact Fit.v _ | exact .i fun _ _ => rfl | exact Fit.ip | exact .p rfl | exact .q rfl | exact .s rfl | exact .y rfl | refine Fit.al ?_ | refine Fit.fl ?_ ?_ | refine And.intro ?_ ?_))⟩, ⟨_, rfl, .tab fun _ _ => rfl⟩, ⟨_, rfl, .lit (fitRBook rfl rfl)⟩, ⟨_, rfl, .tab fun _ _ => rfl⟩, ⟨_, rfl, .lit (by repeat' (first | exact True.intro | exact Fit.dead _ | exact Fit.v _ | exact .i fun _ _ => rfl | exact Fit.ip | exact .p rfl | exact .q rfl | exact .s rfl | exact .y rfl | refine Fit.al ?_ | refine Fit.fl ?_ ?_ | refine And.intro ?_ ?_))⟩, trivial⟩
            · have hf : f ≤ 64 := hf
              (conv => arg 1; whnf)
              refine br (fun h2 => ?_) (fun h2 => ?_)
              · have hf2 : f < 64 := by have := of_decide_eq_true h2; omega
                (conv => arg 1; whnf); (repeat' (first | (refine brt (by assumption) ?_; (conv => arg 1; whnf)) | (refine brf (by assumption) ?_; (conv => arg 1; whnf)) | fail))
                refine loopIn (fun i : Nat => i ≤ N.length) (fun i => frm 213 [(5, .p 0 0), (6, .p 2 0), (9, .p 4 0), (11, u64 (lamps (acts.getD (k : Int).toNat eAct.dflt).c.ca N).u), (12, u64 (lamps (acts.getD (k : Int).toNat eAct.dflt).c.ca N).d), (13, u64 (lamps (acts.getD (k : Int).toNat eAct.dflt).c.ca N).n), (14, i64 f), (15, boo ((N.take i).any (upB f))), (16, boo ((N.take i).any (dnB f))), (17, boo ((N.take i).any (inC (acts.getD (k : Int).toNat eAct.dflt).c.ca f))), (35, row eAct acts), (36, i64 acts.length), (37, i64 k), (121, .s 3 4 0 N.length), (122, i64 N.length), (123, i64 i)]) (fun i => [.lit (bookC s 1 N.length b'), tabl eC N, .lit (rbookC s 3 N.length bl'), tabl eC N, .lit (acts.getD (k : Int).toNat eAct.dflt).c.cs]) (fun i => N.length - i) 0 [0, 1, 2, 3, 4] (Nat.zero_le _) (by decide) ?_ ?_ rfl fun i hi => ?_
                · repeat' (first | exact True.intro | exact Fit.dead _ | exact Fit.v _ | exact row_self eAct acts | exact .p rfl | exact .s rfl | refine And.intro ?_ ?_)
                · exact ⟨⟨_, rfl, .lit (by repeat' (first | exact True.intro | exact Fit.dead _ | exact Fit.v _ | exact .i fun _ _ => rfl | exact Fit.ip | exact .p rfl | exact .q rfl | exact .s rfl | exact .y rfl | refine Fit.al ?_ | refine Fit.fl ?_ ?_ | refine And.intro ?_ ?_))⟩, ⟨_, rfl, .tab fun _ _ => rfl⟩, ⟨_, rfl, .lit (fitRBook rfl rfl)⟩, ⟨_, rfl, .tab fun _ _ => rfl⟩, ⟨_, rfl, .lit (by repeat' (first | exact True.intro | exact Fit.dead _ | exact Fit.v _ | exact .i fun _ _ => rfl | exact Fit.ip | exact .p rfl | exact .q rfl | exact .s rfl | exact .y rfl | refine Fit.al ?_ | refine Fit.fl ?_ ?_ | refine And.intro ?_ ?_))⟩, trivial⟩
                · have hi : i ≤ N.length := hi
                  (conv => arg 1; whnf)
                  refine br (fun h3 => ?_) (fun h3 => ?_)
                  · have hlti : i < N.length := by have := of_decide_eq_true h3; omega
                    have e3 : decide (0 + (i : Int).toNat < N.length) = true := decide_eq_true (by omega)
                    have e4 : (decide (0 ≤ (i : Int)) && decide ((i : Int) < (N.length : Int))) = true := by simp only [Bool.and_eq_true, decide_eq_true_eq]; omega
                    have ei : 0 + (i : Int).toNat = i := by omega
                    (conv => arg 1; whnf); (repeat' (first | (refine brt (by assumption) ?_; (conv => arg 1; whnf)) | (refine brf (by assumption) ?_; (conv => arg 1; whnf)) | fail))
                    have fU : (N.take (i + 1)).any (upB f) = ((N.take i).any (upB f) || upB f (N.getD (0 + (i : Int).toNat) eC.dflt)) := (any_take N i hlti).trans (by rw [ei])
                    have fD : (N.take (i + 1)).any (dnB f) = ((N.take i).any (dnB f) || dnB f (N.getD (0 + (i : Int).toNat) eC.dflt)) := (any_take N i hlti).trans (by rw [ei])
                    have fI : (N.take (i + 1)).any (inC (acts.getD (k : Int).toNat eAct.dflt).c.ca f) = ((N.take i).any (inC (acts.getD (k : Int).toNat eAct.dflt).c.ca f) || inC (acts.getD (k : Int).toNat eAct.dflt).c.ca f (N.getD (0 + (i : Int).toNat) eC.dflt)) := (any_take N i hlti).trans (by rw [ei])
                    refine joinIn (fun _ : Unit => True) (fun _ => frm 213 [(5, .p 0 0), (6, .p 2 0), (9, .p 4 0), (11, u64 (lamps (acts.getD (k : Int).toNat eAct.dflt).c.ca N).u), (12, u64 (lamps (acts.getD (k : Int).toNat eAct.dflt).c.ca N).d), (13, u64 (lamps (acts.getD (k : Int).toNat eAct.dflt).c.ca N).n), (14, i64 f), (15, boo ((N.take (i + 1)).any (upB f))), (16, boo ((N.take i).any (dnB f))), (17, boo ((N.take i).any (inC (acts.getD (k : Int).toNat eAct.dflt).c.ca f))), (19, .p 5 0), (35, row eAct acts), (36, i64 acts.length), (37, i64 k), (121, .s 3 4 0 N.length), (122, i64 N.length), (123, i64 i)]) (fun _ => [.lit (bookC s 1 N.length b'), tabl eC N, .lit (rbookC s 3 N.length bl'), tabl eC N, .lit (acts.getD (k : Int).toNat eAct.dflt).c.cs, .lit (N.getD (0 + (i : Int).toNat) eC.dflt).cs]) ?_ (fun _ _ => ?_)
                    · (conv => arg 1; whnf); (repeat' (first | (refine brt (by assumption) ?_; (conv => arg 1; whnf)) | (refine brf (by assumption) ?_; (conv => arg 1; whnf)) | fail))
                      cases hU : (N.take i).any (upB f) with
                      | true =>
                        (conv => arg 1; whnf); (repeat' (first | (refine brt (by assumption) ?_; (conv => arg 1; whnf)) | (refine brf (by assumption) ?_; (conv => arg 1; whnf)) | fail))
                        refine joinTo () [0, 1, 2, 3, 4, 5] trivial (by decide) ?_ ?_ rfl
                        · repeat' (first | exact True.intro | exact Fit.dead _ | exact Fit.v _ | exact row_self eAct acts | exact .p rfl | exact .s rfl | exact Fit.v' (congrArg Value.bool (by rw [fU, hU]; rfl)) | exact Fit.v' (congrArg Value.bool hU) | refine And.intro ?_ ?_)
                        · exact ⟨⟨_, rfl, .lit (by repeat' (first | exact True.intro | exact Fit.dead _ | exact Fit.v _ | exact .i fun _ _ => rfl | exact Fit.ip | exact .p rfl | exact .q rfl | exact .s rfl | exact .y rfl | refine Fit.al ?_ | refine Fit.fl ?_ ?_ | refine And.intro ?_ ?_))⟩, ⟨_, rfl, .tab fun _ _ => rfl⟩, ⟨_, rfl, .lit (fitRBook rfl rfl)⟩, ⟨_, rfl, .tab fun _ _ => rfl⟩, ⟨_, rfl, .lit (by repeat' (first | exact True.intro | exact Fit.dead _ | exact Fit.v _ | exact .i fun _ _ => rfl | exact Fit.ip | exact .p rfl | exact .q rfl | exact .s rfl | exact .y rfl | refine Fit.al ?_ | refine Fit.fl ?_ ?_ | refine And.intro ?_ ?_))⟩, ⟨_, rfl, .lit (by repeat' (first | exact True.intro | exact Fit.dead _ | exact Fit.v _ | exact .i fun _ _ => rfl | exact Fit.ip | exact .p rfl | exact .q rfl | exact .s rfl | exact .y rfl | refine Fit.al ?_ | refine Fit.fl ?_ ?_ | refine And.intro ?_ ?_))⟩, trivial⟩
                      | false =>
                        cases h5 : decide ((N.getD (0 + (i : Int).toNat) eC.dflt).fl = (f : Int)) with
                        | false =>
                          (conv => arg 1; whnf); (repeat' (first | (refine brt (by assumption) ?_; (conv => arg 1; whnf)) | (refine brf (by assumption) ?_; (conv => arg 1; whnf)) | fail))
                          refine joinTo () [0, 1, 2, 3, 4, 5] trivial (by decide) ?_ ?_ rfl
                          · repeat' (first | exact True.intro | exact Fit.dead _ | exact Fit.v _ | exact row_self eAct acts | exact .p rfl | exact .s rfl | exact Fit.v' (congrArg Value.bool (by simp only [fU, hU, upB, h5, Bool.true_and, Bool.false_and, Bool.false_or, Bool.true_or])) | exact Fit.v' (congrArg Value.bool hU) | refine And.intro ?_ ?_)
                          · exact ⟨⟨_, rfl, .lit (by repeat' (first | exact True.intro | exact Fit.dead _ | exact Fit.v _ | exact .i fun _ _ => rfl | exact Fit.ip | exact .p rfl | exact .q rfl | exact .s rfl | exact .y rfl | refine Fit.al ?_ | refine Fit.fl ?_ ?_ | refine And.intro ?_ ?_))⟩, ⟨_, rfl, .tab fun _ _ => rfl⟩, ⟨_, rfl, .lit (fitRBook rfl rfl)⟩, ⟨_, rfl, .tab fun _ _ => rfl⟩, ⟨_, rfl, .lit (by repeat' (first | exact True.intro | exact Fit.dead _ | exact Fit.v _ | exact .i fun _ _ => rfl | exact Fit.ip | exact .p rfl | exact .q rfl | exact .s rfl | exact .y rfl | refine Fit.al ?_ | refine Fit.fl ?_ ?_ | refine And.intro ?_ ?_))⟩, ⟨_, rfl, .lit (by repeat' (first | exact True.intro | exact Fit.dead _ | exact Fit.v _ | exact .i fun _ _ => rfl | exact Fit.ip | exact .p rfl | exact .q rfl | exact .s rfl | exact .y rfl | refine Fit.al ?_ | refine Fit.fl ?_ ?_ | refine And.intro ?_ ?_))⟩, trivial⟩
                        | true =>
                          cases h6 : decide ((N.getD (0 + (i : Int).toNat) eC.dflt).ca < 0) with
                          | false =>
                            (conv => arg 1; whnf); (repeat' (first | (refine brt (by assumption) ?_; (conv => arg 1; whnf)) | (refine brf (by assumption) ?_; (conv => arg 1; whnf)) | fail))
                            refine joinTo () [0, 1, 2, 3, 4, 5] trivial (by decide) ?_ ?_ rfl
                            · repeat' (first | exact True.intro | exact Fit.dead _ | exact Fit.v _ | exact row_self eAct acts | exact .p rfl | exact .s rfl | exact Fit.v' (congrArg Value.bool (by simp only [fU, hU, upB, h5, h6, Bool.true_and, Bool.false_and, Bool.false_or, Bool.true_or])) | exact Fit.v' (congrArg Value.bool hU) | refine And.intro ?_ ?_)
                            · exact ⟨⟨_, rfl, .lit (by repeat' (first | exact True.intro | exact Fit.dead _ | exact Fit.v _ | exact .i fun _ _ => rfl | exact Fit.ip | exact .p rfl | exact .q rfl | exact .s rfl | exact .y rfl | refine Fit.al ?_ | refine Fit.fl ?_ ?_ | refine And.intro ?_ ?_))⟩, ⟨_, rfl, .tab fun _ _ => rfl⟩, ⟨_, rfl, .lit (fitRBook rfl rfl)⟩, ⟨_, rfl, .tab fun _ _ => rfl⟩, ⟨_, rfl, .lit (by repeat' (first | exact True.intro | exact Fit.dead _ | exact Fit.v _ | exact .i fun _ _ => rfl | exact Fit.ip | exact .p rfl | exact .q rfl | exact .s rfl | exact .y rfl | refine Fit.al ?_ | refine Fit.fl ?_ ?_ | refine And.intro ?_ ?_))⟩, ⟨_, rfl, .lit (by repeat' (first | exact True.intro | exact Fit.dead _ | exact Fit.v _ | exact .i fun _ _ => rfl | exact Fit.ip | exact .p rfl | exact .q rfl | exact .s rfl | exact .y rfl | refine Fit.al ?_ | refine Fit.fl ?_ ?_ | refine And.intro ?_ ?_))⟩, trivial⟩
                          | true =>
                            (conv => arg 1; whnf); (repeat' (first | (refine brt (by assumption) ?_; (conv => arg 1; whnf)) | (refine brf (by assumption) ?_; (conv => arg 1; whnf)) | fail))
                            refine joinTo () [0, 1, 2, 3, 4, 5] trivial (by decide) ?_ ?_ rfl
                            · repeat' (first | exact True.intro | exact Fit.dead _ | exact Fit.v _ | exact row_self eAct acts | exact .p rfl | exact .s rfl | exact Fit.v' (congrArg Value.bool (by simp only [fU, hU, upB, h5, h6, Bool.true_and, Bool.false_and, Bool.false_or, Bool.true_or])) | exact Fit.v' (congrArg Value.bool hU) | refine And.intro ?_ ?_)
                            · exact ⟨⟨_, rfl, .lit (by repeat' (first | exact True.intro | exact Fit.dead _ | exact Fit.v _ | exact .i fun _ _ => rfl | exact Fit.ip | exact .p rfl | exact .q rfl | exact .s rfl | exact .y rfl | refine Fit.al ?_ | refine Fit.fl ?_ ?_ | refine And.intro ?_ ?_))⟩, ⟨_, rfl, .tab fun _ _ => rfl⟩, ⟨_, rfl, .lit (fitRBook rfl rfl)⟩, ⟨_, rfl, .tab fun _ _ => rfl⟩, ⟨_, rfl, .lit (by repeat' (first | exact True.intro | exact Fit.dead _ | exact Fit.v _ | exact .i fun _ _ => rfl | exact Fit.ip | exact .p rfl | exact .q rfl | exact .s rfl | exact .y rfl | refine Fit.al ?_ | refine Fit.fl ?_ ?_ | refine And.intro ?_ ?_))⟩, ⟨_, rfl, .lit (by repeat' (first | exact True.intro | exact Fit.dead _ | exact Fit.v _ | exact .i fun _ _ => rfl | exact Fit.ip | exact .p rfl | exact .q rfl | exact .s rfl | exact .y rfl | refine Fit.al ?_ | refine Fit.fl ?_ ?_ | refine And.intro ?_ ?_))⟩, trivial⟩
                    · (conv => arg 1; whnf); (repeat' (first | (refine brt (by assumption) ?_; (conv => arg 1; whnf)) | (refine brf (by assumption) ?_; (conv => arg 1; whnf)) | fail))
                      refine joinIn (fun _ : Unit => True) (fun _ => frm 213 [(5, .p 0 0), (6, .p 2 0), (9, .p 4 0), (11, u64 (lamps (acts.getD (k : Int).toNat eAct.dflt).c.ca N).u), (12, u64 (lamps (acts.getD (k : Int).toNat eAct.dflt).c.ca N).d), (13, u64 (lamps (acts.getD (k : Int).toNat eAct.dflt).c.ca N).n), (14, i64 f), (15, boo ((N.take (i + 1)).any (upB f))), (16, boo ((N.take (i + 1)).any (dnB f))), (17, boo ((N.take i).any (inC (acts.getD (k : Int).toNat eAct.dflt).c.ca f))), (19, .p 5 0), (35, row eAct acts), (36, i64 acts.length), (37, i64 k), (121, .s 3 4 0 N.length), (122, i64 N.length), (123, i64 i)]) (fun _ => [.lit (bookC s 1 N.length b'), tabl eC N, .lit (rbookC s 3 N.length bl'), tabl eC N, .lit (acts.getD (k : Int).toNat eAct.dflt).c.cs, .lit (N.getD (0 + (i : Int).toNat) eC.dflt).cs]) ?_ (fun _ _ => ?_)
                      · (conv => arg 1; whnf); (repeat' (first | (refine brt (by assumption) ?_; (conv => arg 1; whnf)) | (refine brf (by assumption) ?_; (conv => arg 1; whnf)) | fail))
                        cases hU : (N.take i).any (dnB f) with
                        | true =>
                          (conv => arg 1; whnf); (repeat' (first | (refine brt (by assumption) ?_; (conv => arg 1; whnf)) | (refine brf (by assumption) ?_; (conv => arg 1; whnf)) | fail))
                          refine joinTo () [0, 1, 2, 3, 4, 5] trivial (by decide) ?_ ?_ rfl
                          · repeat' (first | exact True.intro | exact Fit.dead _ | exact Fit.v _ | exact row_self eAct acts | exact .p rfl | exact .s rfl | exact Fit.v' (congrArg Value.bool (by rw [fD, hU]; rfl)) | exact Fit.v' (congrArg Value.bool hU) | refine And.intro ?_ ?_)
                          · exact ⟨⟨_, rfl, .lit (by repeat' (first | exact True.intro | exact Fit.dead _ | exact Fit.v _ | exact .i fun _ _ => rfl | exact Fit.ip | exact .p rfl | exact .q rfl | exact .s rfl | exact .y rfl | refine Fit.al ?_ | refine Fit.fl ?_ ?_ | refine And.intro ?_ ?_))⟩, ⟨_, rfl, .tab fun _ _ => rfl⟩, ⟨_, rfl, .lit (fitRBook rfl rfl)⟩, ⟨_, rfl, .tab fun _ _ => rfl⟩, ⟨_, rfl, .lit (by repeat' (first | exact True.intro | exact Fit.dead _ | exact Fit.v _ | exact .i fun _ _ => rfl | exact Fit.ip | exact .p rfl | exact .q rfl | exact .s rfl | exact .y rfl | refine Fit.al ?_ | refine Fit.fl ?_ ?_ | refine And.intro ?_ ?_))⟩, ⟨_, rfl, .lit (by repeat' (first | exact True.intro | exact Fit.dead _ | exact Fit.v _ | exact .i fun _ _ => rfl | exact Fit.ip | exact .p rfl | exact .q rfl | exact .s rfl | exact .y rfl | refine Fit.al ?_ | refine Fit.fl ?_ ?_ | refine And.intro ?_ ?_))⟩, trivial⟩
                        | false =>
                          cases h5 : decide ((N.getD (0 + (i : Int).toNat) eC.dflt).fl = (f : Int)) with
                          | false =>
                            (conv => arg 1; whnf); (repeat' (first | (refine brt (by assumption) ?_; (conv => arg 1; whnf)) | (refine brf (by assumption) ?_; (conv => arg 1; whnf)) | fail))
                            refine joinTo () [0, 1, 2, 3, 4, 5] trivial (by decide) ?_ ?_ rfl
                            · repeat' (first | exact True.intro | exact Fit.dead _ | exact Fit.v _ | exact row_self eAct acts | exact .p rfl | exact .s rfl | exact Fit.v' (congrArg Value.bool (by simp only [fD, hU, dnB, h5, Bool.true_and, Bool.false_and, Bool.false_or, Bool.true_or])) | exact Fit.v' (congrArg Value.bool hU) | refine And.intro ?_ ?_)
                            · exact ⟨⟨_, rfl, .lit (by repeat' (first | exact True.intro | exact Fit.dead _ | exact Fit.v _ | exact .i fun _ _ => rfl | exact Fit.ip | exact .p rfl | exact .q rfl | exact .s rfl | exact .y rfl | refine Fit.al ?_ | refine Fit.fl ?_ ?_ | refine And.intro ?_ ?_))⟩, ⟨_, rfl, .tab fun _ _ => rfl⟩, ⟨_, rfl, .lit (fitRBook rfl rfl)⟩, ⟨_, rfl, .tab fun _ _ => rfl⟩, ⟨_, rfl, .lit (by repeat' (first | exact True.intro | exact Fit.dead _ | exact Fit.v _ | exact .i fun _ _ => rfl | exact Fit.ip | exact .p rfl | exact .q rfl | exact .s rfl | exact .y rfl | refine Fit.al ?_ | refine Fit.fl ?_ ?_ | refine And.intro ?_ ?_))⟩, ⟨_, rfl, .lit (by repeat' (first | exact True.intro | exact Fit.dead _ | exact Fit.v _ | exact .i fun _ _ => rfl | exact Fit.ip | exact .p rfl | exact .q rfl | exact .s rfl | exact .y rfl | refine Fit.al ?_ | refine Fit.fl ?_ ?_ | refine And.intro ?_ ?_))⟩, trivial⟩
                          | true =>
                            cases h6 : decide ((N.getD (0 + (i : Int).toNat) eC.dflt).ca < 0) with
                            | false =>
                              (conv => arg 1; whnf); (repeat' (first | (refine brt (by assumption) ?_; (conv => arg 1; whnf)) | (refine brf (by assumption) ?_; (conv => arg 1; whnf)) | fail))
                              refine joinTo () [0, 1, 2, 3, 4, 5] trivial (by decide) ?_ ?_ rfl
                              · repeat' (first | exact True.intro | exact Fit.dead _ | exact Fit.v _ | exact row_self eAct acts | exact .p rfl | exact .s rfl | exact Fit.v' (congrArg Value.bool (by simp only [fD, hU, dnB, h5, h6, Bool.true_and, Bool.false_and, Bool.false_or, Bool.true_or])) | exact Fit.v' (congrArg Value.bool hU) | refine And.intro ?_ ?_)
                              · exact ⟨⟨_, rfl, .lit (by repeat' (first | exact True.intro | exact Fit.dead _ | exact Fit.v _ | exact .i fun _ _ => rfl | exact Fit.ip | exact .p rfl | exact .q rfl | exact .s rfl | exact .y rfl | refine Fit.al ?_ | refine Fit.fl ?_ ?_ | refine And.intro ?_ ?_))⟩, ⟨_, rfl, .tab fun _ _ => rfl⟩, ⟨_, rfl, .lit (fitRBook rfl rfl)⟩, ⟨_, rfl, .tab fun _ _ => rfl⟩, ⟨_, rfl, .lit (by repeat' (first | exact True.intro | exact Fit.dead _ | exact Fit.v _ | exact .i fun _ _ => rfl | exact Fit.ip | exact .p rfl | exact .q rfl | exact .s rfl | exact .y rfl | refine Fit.al ?_ | refine Fit.fl ?_ ?_ | refine And.intro ?_ ?_))⟩, ⟨_, rfl, .lit (by repeat' (first | exact True.intro | exact Fit.dead _ | exact Fit.v _ | exact .i fun _ _ => rfl | exact Fit.ip | exact .p rfl | exact .q rfl | exact .s rfl | exact .y rfl | refine Fit.al ?_ | refine Fit.fl ?_ ?_ | refine And.intro ?_ ?_))⟩, trivial⟩
                            | true =>
                              (conv => arg 1; whnf); (repeat' (first | (refine brt (by assumption) ?_; (conv => arg 1; whnf)) | (refine brf (by assumption) ?_; (conv => arg 1; whnf)) | fail))
                              refine joinTo () [0, 1, 2, 3, 4, 5] trivial (by decide) ?_ ?_ rfl
                              · repeat' (first | exact True.intro | exact Fit.dead _ | exact Fit.v _ | exact row_self eAct acts | exact .p rfl | exact .s rfl | exact Fit.v' (congrArg Value.bool (by simp only [fD, hU, dnB, h5, h6, Bool.true_and, Bool.false_and, Bool.false_or, Bool.true_or])) | exact Fit.v' (congrArg Value.bool hU) | refine And.intro ?_ ?_)
                              · exact ⟨⟨_, rfl, .lit (by repeat' (first | exact True.intro | exact Fit.dead _ | exact Fit.v _ | exact .i fun _ _ => rfl | exact Fit.ip | exact .p rfl | exact .q rfl | exact .s rfl | exact .y rfl | refine Fit.al ?_ | refine Fit.fl ?_ ?_ | refine And.intro ?_ ?_))⟩, ⟨_, rfl, .tab fun _ _ => rfl⟩, ⟨_, rfl, .lit (fitRBook rfl rfl)⟩, ⟨_, rfl, .tab fun _ _ => rfl⟩, ⟨_, rfl, .lit (by repeat' (first | exact True.intro | exact Fit.dead _ | exact Fit.v _ | exact .i fun _ _ => rfl | exact Fit.ip | exact .p rfl | exact .q rfl | exact .s rfl | exact .y rfl | refine Fit.al ?_ | refine Fit.fl ?_ ?_ | refine And.intro ?_ ?_))⟩, ⟨_, rfl, .lit (by repeat' (first | exact True.intro | exact Fit.dead _ | exact Fit.v _ | exact .i fun _ _ => rfl | exact Fit.ip | exact .p rfl | exact .q rfl | exact .s rfl | exact .y rfl | refine Fit.al ?_ | refine Fit.fl ?_ ?_ | refine And.intro ?_ ?_))⟩, trivial⟩
                      · (conv => arg 1; whnf); (repeat' (first | (refine brt (by assumption) ?_; (conv => arg 1; whnf)) | (refine brf (by assumption) ?_; (conv => arg 1; whnf)) | fail))
                        cases hU : (N.take i).any (inC (acts.getD (k : Int).toNat eAct.dflt).c.ca f) with
                        | true =>
                          (conv => arg 1; whnf); (repeat' (first | (refine brt (by assumption) ?_; (conv => arg 1; whnf)) | (refine brf (by assumption) ?_; (conv => arg 1; whnf)) | fail))
                          refine again (i + 1) [0, 1, 2, 3, 4] hlti (by show N.length - (i + 1) < N.length - i; omega) (by decide) ?_ ?_ rfl
                          · repeat' (first | exact True.intro | exact Fit.dead _ | exact Fit.v _ | exact row_self eAct acts | exact .p rfl | exact .s rfl | exact Fit.v' (congrArg Value.bool (by rw [fI, hU]; rfl)) | exact Fit.v' (congrArg (Value.int .i64) (nxt i (by omega)).symm) | refine And.intro ?_ ?_)
                          · exact ⟨⟨_, rfl, .lit (by repeat' (first | exact True.intro | exact Fit.dead _ | exact Fit.v _ | exact .i fun _ _ => rfl | exact Fit.ip | exact .p rfl | exact .q rfl | exact .s rfl | exact .y rfl | refine Fit.al ?_ | refine Fit.fl ?_ ?_ | refine And.intro ?_ ?_))⟩, ⟨_, rfl, .tab fun _ _ => rfl⟩, ⟨_, rfl, .lit (fitRBook rfl rfl)⟩, ⟨_, rfl, .tab fun _ _ => rfl⟩, ⟨_, rfl, .lit (by repeat' (first | exact True.intro | exact Fit.dead _ | exact Fit.v _ | exact .i fun _ _ => rfl | exact Fit.ip | exact .p rfl | exact .q rfl | exact .s rfl | exact .y rfl | refine Fit.al ?_ | refine Fit.fl ?_ ?_ | refine And.intro ?_ ?_))⟩, trivial⟩
                        | false =>
                          cases h5 : decide ((N.getD (0 + (i : Int).toNat) eC.dflt).fl = (f : Int)) with
                          | false =>
                            (conv => arg 1; whnf); (repeat' (first | (refine brt (by assumption) ?_; (conv => arg 1; whnf)) | (refine brf (by assumption) ?_; (conv => arg 1; whnf)) | fail))
                            refine again (i + 1) [0, 1, 2, 3, 4] hlti (by show N.length - (i + 1) < N.length - i; omega) (by decide) ?_ ?_ rfl
                            · repeat' (first | exact True.intro | exact Fit.dead _ | exact Fit.v _ | exact row_self eAct acts | exact .p rfl | exact .s rfl | exact Fit.v' (congrArg Value.bool (by simp only [fI, hU, inC, h5, Bool.true_and, Bool.false_and, Bool.false_or, Bool.true_or])) | exact Fit.v' (congrArg (Value.int .i64) (nxt i (by omega)).symm) | refine And.intro ?_ ?_)
                            · exact ⟨⟨_, rfl, .lit (by repeat' (first | exact True.intro | exact Fit.dead _ | exact Fit.v _ | exact .i fun _ _ => rfl | exact Fit.ip | exact .p rfl | exact .q rfl | exact .s rfl | exact .y rfl | refine Fit.al ?_ | refine Fit.fl ?_ ?_ | refine And.intro ?_ ?_))⟩, ⟨_, rfl, .tab fun _ _ => rfl⟩, ⟨_, rfl, .lit (fitRBook rfl rfl)⟩, ⟨_, rfl, .tab fun _ _ => rfl⟩, ⟨_, rfl, .lit (by repeat' (first | exact True.intro | exact Fit.dead _ | exact Fit.v _ | exact .i fun _ _ => rfl | exact Fit.ip | exact .p rfl | exact .q rfl | exact .s rfl | exact .y rfl | refine Fit.al ?_ | refine Fit.fl ?_ ?_ | refine And.intro ?_ ?_))⟩, trivial⟩
                          | true =>
                            cases h6 : decide (0 ≤ (N.getD (0 + (i : Int).toNat) eC.dflt).ca) with
                            | false =>
                              (conv => arg 1; whnf); (repeat' (first | (refine brt (by assumption) ?_; (conv => arg 1; whnf)) | (refine brf (by assumption) ?_; (conv => arg 1; whnf)) | fail))
                              refine again (i + 1) [0, 1, 2, 3, 4] hlti (by show N.length - (i + 1) < N.length - i; omega) (by decide) ?_ ?_ rfl
                              · repeat' (first | exact True.intro | exact Fit.dead _ | exact Fit.v _ | exact row_self eAct acts | exact .p rfl | exact .s rfl | exact Fit.v' (congrArg Value.bool (by simp only [fI, hU, inC, h5, h6, Bool.true_and, Bool.false_and, Bool.false_or, Bool.true_or])) | exact Fit.v' (congrArg (Value.int .i64) (nxt i (by omega)).symm) | refine And.intro ?_ ?_)
                              · exact ⟨⟨_, rfl, .lit (by repeat' (first | exact True.intro | exact Fit.dead _ | exact Fit.v _ | exact .i fun _ _ => rfl | exact Fit.ip | exact .p rfl | exact .q rfl | exact .s rfl | exact .y rfl | refine Fit.al ?_ | refine Fit.fl ?_ ?_ | refine And.intro ?_ ?_))⟩, ⟨_, rfl, .tab fun _ _ => rfl⟩, ⟨_, rfl, .lit (fitRBook rfl rfl)⟩, ⟨_, rfl, .tab fun _ _ => rfl⟩, ⟨_, rfl, .lit (by repeat' (first | exact True.intro | exact Fit.dead _ | exact Fit.v _ | exact .i fun _ _ => rfl | exact Fit.ip | exact .p rfl | exact .q rfl | exact .s rfl | exact .y rfl | refine Fit.al ?_ | refine Fit.fl ?_ ?_ | refine And.intro ?_ ?_))⟩, trivial⟩
                            | true =>
                              (conv => arg 1; whnf); (repeat' (first | (refine brt (by assumption) ?_; (conv => arg 1; whnf)) | (refine brf (by assumption) ?_; (conv => arg 1; whnf)) | fail))
                              refine again (i + 1) [0, 1, 2, 3, 4] hlti (by show N.length - (i + 1) < N.length - i; omega) (by decide) ?_ ?_ rfl
                              · repeat' (first | exact True.intro | exact Fit.dead _ | exact Fit.v _ | exact row_self eAct acts | exact .p rfl | exact .s rfl | exact Fit.v' (congrArg Value.bool (by simp only [fI, hU, inC, h5, h6, Bool.true_and, Bool.false_and, Bool.false_or, Bool.true_or])) | exact Fit.v' (congrArg (Value.int .i64) (nxt i (by omega)).symm) | refine And.intro ?_ ?_)
                              · exact ⟨⟨_, rfl, .lit (by repeat' (first | exact True.intro | exact Fit.dead _ | exact Fit.v _ | exact .i fun _ _ => rfl | exact Fit.ip | exact .p rfl | exact .q rfl | exact .s rfl | exact .y rfl | refine Fit.al ?_ | refine Fit.fl ?_ ?_ | refine And.intro ?_ ?_))⟩, ⟨_, rfl, .tab fun _ _ => rfl⟩, ⟨_, rfl, .lit (fitRBook rfl rfl)⟩, ⟨_, rfl, .tab fun _ _ => rfl⟩, ⟨_, rfl, .lit (by repeat' (first | exact True.intro | exact Fit.dead _ | exact Fit.v _ | exact .i fun _ _ => rfl | exact Fit.ip | exact .p rfl | exact .q rfl | exact .s rfl | exact .y rfl | refine Fit.al ?_ | refine Fit.fl ?_ ?_ | refine And.intro ?_ ?_))⟩, trivial⟩
                  · have hil : i = N.length := by have := of_decide_eq_false h3; omega
                    (conv => arg 1; whnf); (repeat' (first | (refine brt (by assumption) ?_; (conv => arg 1; whnf)) | (refine brf (by assumption) ?_; (conv => arg 1; whnf)) | fail))
                    refine leave ?_
                    show tr _
                    obtain ⟨q1, q2, q3⟩ := lamp_eq (car := (acts.getD (k : Int).toNat eAct.dflt).c.ca) (f := (f : Int)) (by omega) (by omega) hy.in64
                    have hT : N.take i = N := by rw [hil, List.take_length]
                    have p1 : (!(hasF (lamps (acts.getD (k : Int).toNat eAct.dflt).c.ca N).u f == (N.take i).any (upB f))) = false := by rw [hT, q1]; simp
                    have p2 : (!(hasF (lamps (acts.getD (k : Int).toNat eAct.dflt).c.ca N).d f == (N.take i).any (dnB f))) = false := by rw [hT, q2]; simp
                    have p3 : (!(hasF (lamps (acts.getD (k : Int).toNat eAct.dflt).c.ca N).n f == (N.take i).any (inC (acts.getD (k : Int).toNat eAct.dflt).c.ca f))) = false := by rw [hT, q3]; simp
                    have p4 : (!(hasF b' f == bl'.getD (f : Int).toNat false)) = false := by rw [hy.bar f (by omega) (by omega)]; simp
                    have p5 : (decide (0 ≤ (f : Int)) && decide ((f : Int) < ((64 : Nat) : Int))) = true := by simp only [Bool.and_eq_true, decide_eq_true_eq]; omega
                    (conv => arg 1; whnf); (repeat' (first | (refine brt (by assumption) ?_; (conv => arg 1; whnf)) | (refine brf (by assumption) ?_; (conv => arg 1; whnf)) | fail))
                    conv in (aOp _ _ _ _) => tactic => exact ldBarOp (f := (f : Int)) rfl rfl hy.len ⟨by omega, by omega⟩
                    (conv => arg 1; whnf); (repeat' (first | (refine brt (by assumption) ?_; (conv => arg 1; whnf)) | (refine brf (by assumption) ?_; (conv => arg 1; whnf)) | fail))
                    refine again (f + 1) [0, 1, 2, 3, 4] (show f + 1 ≤ 64 by omega) (by show 64 - (f + 1) < 64 - f; omega) (by decide) ?_ ?_ rfl
                    · repeat' (first | exact True.intro | exact Fit.dead _ | exact Fit.v _ | exact row_self eAct acts | exact .p rfl | exact .s rfl | exact Fit.v' (congrArg (Value.int .i64) (nxt f (by omega)).symm) | refine And.intro ?_ ?_)
                    · exact ⟨⟨_, rfl, .lit (by repeat' (first | exact True.intro | exact Fit.dead _ | exact Fit.v _ | exact .i fun _ _ => rfl | exact Fit.ip | exact .p rfl | exact .q rfl | exact .s rfl | exact .y rfl | refine Fit.al ?_ | refine Fit.fl ?_ ?_ | refine And.intro ?_ ?_))⟩, ⟨_, rfl, .tab fun _ _ => rfl⟩, ⟨_, rfl, .lit (fitRBook rfl rfl)⟩, ⟨_, rfl, .tab fun _ _ => rfl⟩, ⟨_, rfl, .lit (by repeat' (first | exact True.intro | exact Fit.dead _ | exact Fit.v _ | exact .i fun _ _ => rfl | exact Fit.ip | exact .p rfl | exact .q rfl | exact .s rfl | exact .y rfl | refine Fit.al ?_ | refine Fit.fl ?_ ?_ | refine And.intro ?_ ?_))⟩, trivial⟩
              · (conv => arg 1; whnf); (repeat' (first | (refine brt (by assumption) ?_; (conv => arg 1; whnf)) | (refine brf (by assumption) ?_; (conv => arg 1; whnf)) | fail))
                refine leave ?_
                show tr _
                (conv => arg 1; whnf); (repeat' (first | (refine brt (by assumption) ?_; (conv => arg 1; whnf)) | (refine brf (by assumption) ?_; (conv => arg 1; whnf)) | fail))
                refine again (k + 1, N, b', bl') [0, 1, 2, 3] ⟨hlt, hy⟩ (by show acts.length - (k + 1) < acts.length - k; omega) (by decide) ?_ ?_ rfl
                · repeat' (first | exact True.intro | exact Fit.dead _ | exact Fit.v _ | exact row_self eAct acts | exact .p rfl | exact .s rfl | exact Fit.v' (congrArg (Value.int .i64) (nxt k (by omega)).symm) | refine And.intro ?_ ?_)
                · exact ⟨⟨_, rfl, .lit (by repeat' (first | exact True.intro | exact Fit.dead _ | exact Fit.v _ | exact .i fun _ _ => rfl | exact Fit.ip | exact .p rfl | exact .q rfl | exact .s rfl | exact .y rfl | refine Fit.al ?_ | refine Fit.fl ?_ ?_ | refine And.intro ?_ ?_))⟩, ⟨_, rfl, .tab fun _ _ => rfl⟩, ⟨_, rfl, .lit (fitRBook rfl rfl)⟩, ⟨_, rfl, .tab fun _ _ => rfl⟩, trivial⟩
        · (conv => arg 1; whnf); (repeat' (first | (refine brt (by assumption) ?_; (conv => arg 1; whnf)) | (refine brf (by assumption) ?_; (conv => arg 1; whnf)) | fail))
          refine leave ?_
          show tr _
          (conv => arg 1; whnf); (repeat' (first | (refine brt (by assumption) ?_; (conv => arg 1; whnf)) | (refine brf (by assumption) ?_; (conv => arg 1; whnf)) | fail))
          exact finB rfl
end Go.Proofs.Ytbilkjolopdeiaa.E
