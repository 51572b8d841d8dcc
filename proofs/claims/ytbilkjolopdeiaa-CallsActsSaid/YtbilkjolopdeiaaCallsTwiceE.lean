/- The law CallsTwice, by the engine. -/
import Derived.Test.YtbilkjolopdeiaaCallsLawsE
namespace Go.Proofs.Ytbilkjolopdeiaa.E
open Go NumMath
set_option linter.unusedSimpArgs false
set_option linter.unusedVariables false
set_option maxRecDepth 100000
set_option maxHeartbeats 8000000
/-- A call that may be pressed. -/
structure MayPress (s : Site) (b : Int) (c : Call) : Prop where
  h1 : (!(s.there c.fl)) = false
  h2 : decide (c.ca < -1) = false
  h3 : decide (s.ca ≤ c.ca) = false
  h4 : s.odd c = false
  h5 : hasF b c.fl = false
theorem press_cases (s : Site) (l : List Call) (b : Int) (c : Call) : ((pressL s l b c).1 ≠ 0 ∧ (pressL s l b c).2 = l ∧ (MayPress s b c → 128 ≤ l.length)) ∨
    (MayPress s b c ∧ l.any (alike c) = true ∧ pressL s l b c = (0, l)) ∨ (MayPress s b c ∧ l.any (alike c) = false ∧ l.length < 128 ∧ pressL s l b c = (0, l ++ [{ c with ag := 0 }])) := by
  unfold pressL
  cases h1 : (!(s.there c.fl)) with
  | true => exact .inl ⟨by simp [cond], rfl, fun h => by rw [h.h1] at h1; cases h1⟩
  | false =>
  cases h2 : decide (c.ca < -1) with
  | true => exact .inl ⟨by simp [cond], rfl, fun h => by rw [h.h2] at h2; cases h2⟩
  | false =>
  cases h3 : decide (s.ca ≤ c.ca) with
  | true => exact .inl ⟨by simp [cond], rfl, fun h => by rw [h.h3] at h3; cases h3⟩
  | false =>
  cases h4 : s.odd c with
  | true => exact .inl ⟨by simp [cond], rfl, fun h => by rw [h.h4] at h4; cases h4⟩
  | false =>
  cases h5 : hasF b c.fl with
  | true => exact .inl ⟨by simp [cond], rfl, fun h => by rw [h.h5] at h5; cases h5⟩
  | false =>
  cases h6 : l.any (alike c) with
  | true => exact .inr (.inl ⟨⟨h1, h2, h3, h4, h5⟩, rfl, rfl⟩)
  | false =>
  cases h7 : decide (128 ≤ l.length) with
  | true => exact .inl ⟨by simp [cond], rfl, fun _ => of_decide_eq_true h7⟩
  | false => exact .inr (.inr ⟨⟨h1, h2, h3, h4, h5⟩, rfl, by have := of_decide_eq_false h7; omega, rfl⟩)
theorem press_may {s : Site} {l : List Call} {b : Int} {c : Call} (h : MayPress s b c) (hl : l.length < 128) : (l.any (alike c) = true ∧ pressL s l b c = (0, l)) ∨ (l.any (alike c) = false ∧ pressL s l b c = (0, l ++ [{ c with ag := 0 }])) := by
  rcases press_cases s l b c with ⟨_, _, h'⟩ | ⟨_, h1, h2⟩ | ⟨_, h1, _, h2⟩
  · have := h' h; omega
  · exact .inl ⟨h1, h2⟩
  · exact .inr ⟨h1, h2⟩
/-- The call, so many ticks later. -/
abbrev aged (c : Call) (n : Nat) : Call := { c with ag := (n : Int) }
theorem alike_aged (c : Call) (n : Nat) : alike c (aged c n) = true := by simp [alike]
theorem tick_aged (c : Call) (n : Nat) (h : n ≤ 1000) : tickC (aged c n) = aged c (n + 1) := by
  have : lim (lim (n : Int) + lim 1) = ((n + 1 : Nat) : Int) := by
    rw [lim_id (a := (n : Int)) (by omega) (by omega), lim_id (a := 1) (by decide) (by decide), lim_id (by omega) (by omega)]; omega
  unfold tickC
  simp only [this]
noncomputable def XTW : Cx := (XCL6.join 200020).join 200022
theorem XTW_ok : CxOk Try.prog XTW := (XCL6_ok.join 200020 rfl).join 200022 rfl
theorem serve_not {c : Call} {n : Nat} (h : c.ca = -1) : serveB c.ca c.fl (!c.up) c.up (aged c n) = false := by
  simp only [serveB, h]; cases c.up <;> simp
theorem serve_car {c : Call} {n : Nat} {u d : Bool} (h : ¬ c.ca = -1) : serveB c.ca c.fl u d (aged c n) = true := by
  simp [serveB, h]
theorem serve_both {c : Call} {n : Nat} : serveB c.ca c.fl c.up (!c.up) (aged c n) = true := by
  simp only [serveB]; by_cases h : c.ca = -1 <;> cases c.up <;> simp [h]
theorem CallsTwice (us : List AV) (h : areArgs tt [23, 46, 3, 3] us) : runF XTW Try.f8 us [] (boo true) [] := by
  obtain ⟨_, _, rfl, hs, _, _, rfl, ha, _, _, rfl, hb, _, _, rfl, hc, rfl⟩ := h
  obtain ⟨s, rfl⟩ := site_arg hs
  obtain ⟨c, rfl, c1, c2, c3, c4⟩ := call_arg ha
  obtain ⟨times, rfl, _, _⟩ := int_arg hb
  obtain ⟨ticks, rfl, _, _⟩ := int_arg hc
  clear hs ha hb hc
  unfold runF
  (conv => arg 1; whnf); (repeat' (first | (refine brt (by assumption) ?_; (conv => arg 1; whnf)) | (refine brf (by assumption) ?_; (conv => arg 1; whnf)) | fail))
  refine br (fun h => ?_) (fun h => ?_)
  · (conv => arg 1; whnf); (repeat' (first | (refine brt (by assumption) ?_; (conv => arg 1; whnf)) | (refine brf (by assumption) ?_; (conv => arg 1; whnf)) | fail))
    exact finB rfl
  · (conv => arg 1; whnf); (repeat' (first | (refine brt (by assumption) ?_; (conv => arg 1; whnf)) | (refine brf (by assumption) ?_; (conv => arg 1; whnf)) | fail))
    refine br (fun h1 => ?_) (fun h1 => ?_)
    · have h1 : (!(decide ((pressL s [] 0 c).1 = 0))) = true := h1
      have e : (pressL s [] 0 c).2 = [] := by
        rcases press_cases s [] 0 c with ⟨_, e, _⟩ | ⟨_, _, e⟩ | ⟨_, _, _, e⟩
        · exact e
        · rw [e] at h1; cases h1
        · rw [e] at h1; cases h1
      (conv => arg 1; whnf); (repeat' (first | (refine brt (by assumption) ?_; (conv => arg 1; whnf)) | (refine brf (by assumption) ?_; (conv => arg 1; whnf)) | fail))
      (refine brt ?_ ?_; (focus (exact bookOk (l := (pressL s [] 0 c).2) (by rw [e]; decide); done)); (conv => arg 1; whnf))
      refine finB ?_
      show true = decide (((rows eC (pressL s [] 0 c).2.length _).length : Int) = 0)
      rw [e]
      rfl
    · have h1 : (!(decide ((pressL s [] 0 c).1 = 0))) = false := h1
      obtain ⟨may, e⟩ : MayPress s 0 c ∧ pressL s [] 0 c = (0, [aged c 0]) := by
        rcases press_cases s [] 0 c with ⟨h2, _, _⟩ | ⟨_, h2, _⟩ | ⟨h2, _, _, e⟩
        · simp [h2] at h1
        · cases h2
        · exact ⟨h2, e⟩
      have again_ok : ∀ n : Nat, pressL s [aged c n] 0 c = (0, [aged c n]) := fun n => by
        rcases press_may (l := [aged c n]) may (show 1 < 128 by decide) with ⟨_, e⟩ | ⟨h2, _⟩
        · exact e
        · rw [List.any_cons, alike_aged] at h2; cases h2
      obtain ⟨T, hT, hT1, hT2⟩ : ∃ T : Int, bits .and .i64 ticks 15 = T ∧ 0 ≤ T ∧ T ≤ 15 := ⟨_, rfl, by rw [and15]; omega, by rw [and15]; omega⟩
      obtain ⟨K, hK, hK1, hK2⟩ : ∃ K : Int, bits .and .i64 times 3 = K ∧ 0 ≤ K ∧ K ≤ 3 := ⟨_, rfl, by rw [and3]; omega, by rw [and3]; omega⟩
      (conv => arg 1; whnf); (repeat' (first | (refine brt (by assumption) ?_; (conv => arg 1; whnf)) | (refine brf (by assumption) ?_; (conv => arg 1; whnf)) | fail))
      refine loopIn (fun i : Nat => (i : Int) ≤ T) (fun i => frm 143 [(2, i64 times), (3, i64 ticks), (5, .p 0 0), (9, .p 1 0), (10, i64 i)]) (fun i => [.lit c.cs, .lit (bookC s 2 1 0), tabl eC [aged c i]]) (fun i => T.toNat - i) 0 [1, 2, 4] hT1 (by decide) ?_ ?_ rfl fun i hi => ?_
      · repeat' (first | exact True.intro | exact Fit.dead _ | exact Fit.v _ | exact .i fun _ _ => rfl | exact Fit.ip | exact .p rfl | exact .q rfl | exact .s rfl | exact .y rfl | refine Fit.al ?_ | refine Fit.fl ?_ ?_ | refine And.intro ?_ ?_)
      · refine ⟨⟨_, rfl, .lit (by repeat' (first | exact True.intro | exact Fit.dead _ | exact Fit.v _ | exact .i fun _ _ => rfl | exact Fit.ip | exact .p rfl | exact .q rfl | exact .s rfl | exact .y rfl | refine Fit.al ?_ | refine Fit.fl ?_ ?_ | refine And.intro ?_ ?_))⟩, ⟨_, rfl, .lit ?_⟩, ⟨_, rfl, ?_⟩, trivial⟩
        · repeat' (first | exact True.intro | exact Fit.v _ | exact fit_s rfl rfl (show 1 = (pressL s [] 0 c).2.length by rw [e]; rfl) | refine And.intro ?_ ?_)
        · show FitB _ _ (tabl eC [aged c 0]) (tabl eC (pressL s [] 0 c).2)
          rw [e]
          exact .tab fun _ _ => rfl
      · have hi : (i : Int) ≤ T := hi
        (conv => arg 1; whnf)
        rw [hT]
        refine br (fun h => ?_) (fun h => ?_)
        · have hlt : (i : Int) < T := of_decide_eq_true h
          (conv => arg 1; whnf); (repeat' (first | (refine brt (by assumption) ?_; (conv => arg 1; whnf)) | (refine brf (by assumption) ?_; (conv => arg 1; whnf)) | fail))
          refine loopIn (fun k : Nat => (k : Int) ≤ K) (fun k => frm 143 [(2, i64 times), (3, i64 ticks), (5, .p 0 0), (9, .p 1 0), (10, i64 i), (11, i64 k)]) (fun k => [.lit c.cs, .lit (bookC s 2 1 0), tabl eC [aged c (i + 1)]]) (fun k => K.toNat - k) 0 [0, 1, 2] hK1 (by decide) ?_ ?_ rfl fun k hk => ?_
          · repeat' (first | exact True.intro | exact Fit.dead _ | exact Fit.v _ | exact .i fun _ _ => rfl | exact Fit.ip | exact .p rfl | exact .q rfl | exact .s rfl | exact .y rfl | refine Fit.al ?_ | refine Fit.fl ?_ ?_ | refine And.intro ?_ ?_)
          · refine ⟨⟨_, rfl, .lit (by repeat' (first | exact True.intro | exact Fit.dead _ | exact Fit.v _ | exact .i fun _ _ => rfl | exact Fit.ip | exact .p rfl | exact .q rfl | exact .s rfl | exact .y rfl | refine Fit.al ?_ | refine Fit.fl ?_ ?_ | refine And.intro ?_ ?_))⟩, ⟨_, rfl, .lit (by repeat' (first | exact True.intro | exact Fit.dead _ | exact Fit.v _ | exact .i fun _ _ => rfl | exact Fit.ip | exact .p rfl | exact .q rfl | exact .s rfl | exact .y rfl | refine Fit.al ?_ | refine Fit.fl ?_ ?_ | refine And.intro ?_ ?_))⟩, ⟨_, rfl, ?_⟩, trivial⟩
            show FitB _ _ (tabl eC [aged c (i + 1)]) (tabl eC [tickC (aged c i)])
            rw [tick_aged c i (by omega)]
            exact .tab fun _ _ => rfl
          · have hk : (k : Int) ≤ K := hk
            have e2 : (!(decide ((pressL s [aged c (i + 1)] 0 c).1 = 0))) = false := by rw [again_ok]; rfl
            (conv => arg 1; whnf)
            rw [hK]
            refine br (fun h => ?_) (fun h => ?_)
            · have hltk : (k : Int) < K := of_decide_eq_true h
              (conv => arg 1; whnf); (repeat' (first | (refine brt (by assumption) ?_; (conv => arg 1; whnf)) | (refine brf (by assumption) ?_; (conv => arg 1; whnf)) | fail))
              refine again (k + 1) [0, 1, 3] (by show ((k + 1 : Nat) : Int) ≤ K; omega) (by show K.toNat - (k + 1) < K.toNat - k; omega) (by decide) ?_ ?_ rfl
              · repeat' (first | exact True.intro | exact Fit.dead _ | exact .p rfl | exact Fit.v _ | exact Fit.v' (congrArg (Value.int .i64) (nxt k (by omega)).symm) | refine And.intro ?_ ?_)
              · refine ⟨⟨_, rfl, .lit (by repeat' (first | exact True.intro | exact Fit.dead _ | exact Fit.v _ | exact .i fun _ _ => rfl | exact Fit.ip | exact .p rfl | exact .q rfl | exact .s rfl | exact .y rfl | refine Fit.al ?_ | refine Fit.fl ?_ ?_ | refine And.intro ?_ ?_))⟩, ⟨_, rfl, .lit ?_⟩, ⟨_, rfl, ?_⟩, trivial⟩
                · repeat' (first | exact True.intro | exact Fit.v _ | exact fit_s rfl rfl (show 1 = (pressL s [aged c (i + 1)] 0 c).2.length by rw [again_ok]; rfl) | refine And.intro ?_ ?_)
                · show FitB _ _ (tabl eC [aged c (i + 1)]) (tabl eC (pressL s [aged c (i + 1)] 0 c).2)
                  rw [again_ok]
                  exact .tab fun _ _ => rfl
            · (conv => arg 1; whnf); (repeat' (first | (refine brt (by assumption) ?_; (conv => arg 1; whnf)) | (refine brf (by assumption) ?_; (conv => arg 1; whnf)) | fail))
              refine leave ?_
              show tr _
              (conv => arg 1; whnf); (repeat' (first | (refine brt (by assumption) ?_; (conv => arg 1; whnf)) | (refine brf (by assumption) ?_; (conv => arg 1; whnf)) | fail))
              refine again (i + 1) [0, 1, 2] (by show ((i + 1 : Nat) : Int) ≤ T; omega) (by show T.toNat - (i + 1) < T.toNat - i; omega) (by decide) ?_ ?_ rfl
              · repeat' (first | exact True.intro | exact Fit.dead _ | exact .p rfl | exact Fit.v _ | exact Fit.v' (congrArg (Value.int .i64) (nxt i (by omega)).symm) | refine And.intro ?_ ?_)
              · exact ⟨⟨_, rfl, .lit (by repeat' (first | exact True.intro | exact Fit.dead _ | exact Fit.v _ | exact .i fun _ _ => rfl | exact Fit.ip | exact .p rfl | exact .q rfl | exact .s rfl | exact .y rfl | refine Fit.al ?_ | refine Fit.fl ?_ ?_ | refine And.intro ?_ ?_))⟩, ⟨_, rfl, .lit (by repeat' (first | exact True.intro | exact Fit.dead _ | exact Fit.v _ | exact .i fun _ _ => rfl | exact Fit.ip | exact .p rfl | exact .q rfl | exact .s rfl | exact .y rfl | refine Fit.al ?_ | refine Fit.fl ?_ ?_ | refine And.intro ?_ ?_))⟩, ⟨_, rfl, .tab fun _ _ => rfl⟩, trivial⟩
        · have hiT : (i : Int) = T := by have := of_decide_eq_false h; omega
          (conv => arg 1; whnf); (repeat' (first | (refine brt (by assumption) ?_; (conv => arg 1; whnf)) | (refine brf (by assumption) ?_; (conv => arg 1; whnf)) | fail))
          refine leave ?_
          show tr _
          (conv => arg 1; whnf); (repeat' (first | (refine brt (by assumption) ?_; (conv => arg 1; whnf)) | (refine brf (by assumption) ?_; (conv => arg 1; whnf)) | fail))
          have q1 : (!(decide ((i : Int) = bits .and .i64 ticks 15))) = false := by rw [hT]; simp [hiT]
          have q2 : (!(decide (c.fl = c.fl))) = false := by simp
          have q3 : (!(decide (c.ca = c.ca))) = false := by simp
          have q4 : (!(decide (c.up = c.up))) = false := by simp
          (conv => arg 1; whnf); (repeat' (first | (refine brt (by assumption) ?_; (conv => arg 1; whnf)) | (refine brf (by assumption) ?_; (conv => arg 1; whnf)) | fail))
          refine joinIn (fun L : List Call => L = [aged c i] ∨ L = []) (fun _ => frm 143 [(5, .p 0 0), (9, .p 1 0), (105, boo false)]) (fun L => [.lit c.cs, .lit (bookC s 2 L.length 0), tabl eC L]) ?_ (fun L hL => ?_)
          · (conv => arg 1; whnf)
            by_cases hall : c.ca = -1
            · have f1 : [aged c i].filter (serveB c.ca c.fl (!c.up) c.up) = [] := by rw [List.filter_cons, serve_not hall]; rfl
              have f2 : [aged c i].filter (fun x => !serveB c.ca c.fl (!c.up) c.up x) = [aged c i] := by rw [List.filter_cons, serve_not hall]; rfl
              have q5 : (!(decide ((([aged c i].filter (serveB c.ca c.fl (!c.up) c.up)).length : Int) = 0))) = false := by rw [f1]; rfl
              (conv => arg 1; whnf); (repeat' (first | (refine brt (by assumption) ?_; (conv => arg 1; whnf)) | (refine brf (by assumption) ?_; (conv => arg 1; whnf)) | fail))
              refine joinTo [aged c i] [0, 1, 4] (.inl rfl) (by decide) ?_ ?_ rfl
              · repeat' (first | exact True.intro | exact Fit.dead _ | exact .p rfl | exact Fit.v _ | exact Fit.v' (congrArg Value.bool q5.symm) | refine And.intro ?_ ?_)
              · refine ⟨⟨_, rfl, .lit (by repeat' (first | exact True.intro | exact Fit.dead _ | exact Fit.v _ | exact .i fun _ _ => rfl | exact Fit.ip | exact .p rfl | exact .q rfl | exact .s rfl | exact .y rfl | refine Fit.al ?_ | refine Fit.fl ?_ ?_ | refine And.intro ?_ ?_))⟩, ⟨_, rfl, .lit ?_⟩, ⟨_, rfl, ?_⟩, trivial⟩
                · repeat' (first | exact True.intro | exact Fit.v _ | exact fit_s rfl rfl (show 1 = ([aged c i].filter (fun x => !serveB c.ca c.fl (!c.up) c.up x)).length by rw [f2]; rfl) | refine And.intro ?_ ?_)
                · show FitB _ _ (tabl eC [aged c i]) (tabl eC ([aged c i].filter (fun x => !serveB c.ca c.fl (!c.up) c.up x)))
                  rw [f2]
                  exact .tab fun _ _ => rfl
            · have f1 : [aged c i].filter (serveB c.ca c.fl (!c.up) c.up) = [aged c i] := by rw [List.filter_cons, serve_car hall]; rfl
              have f2 : [aged c i].filter (fun x => !serveB c.ca c.fl (!c.up) c.up x) = [] := by rw [List.filter_cons, serve_car hall]; rfl
              have q5 : (!(decide ((([aged c i].filter (serveB c.ca c.fl (!c.up) c.up)).length : Int) = 0))) = true := by rw [f1]; rfl
              have q6 : decide (c.ca < 0) = false := by
                have := of_decide_eq_false may.h2
                exact decide_eq_false (by omega)
              (conv => arg 1; whnf); (repeat' (first | (refine brt (by assumption) ?_; (conv => arg 1; whnf)) | (refine brf (by assumption) ?_; (conv => arg 1; whnf)) | fail))
              refine joinTo [] [0, 1, 4] (.inr rfl) (by decide) ?_ ?_ rfl
              · repeat' (first | exact True.intro | exact Fit.dead _ | exact .p rfl | exact Fit.v' (congrArg Value.bool q6.symm) | refine And.intro ?_ ?_)
              · refine ⟨⟨_, rfl, .lit (by repeat' (first | exact True.intro | exact Fit.dead _ | exact Fit.v _ | exact .i fun _ _ => rfl | exact Fit.ip | exact .p rfl | exact .q rfl | exact .s rfl | exact .y rfl | refine Fit.al ?_ | refine Fit.fl ?_ ?_ | refine And.intro ?_ ?_))⟩, ⟨_, rfl, .lit ?_⟩, ⟨_, rfl, ?_⟩, trivial⟩
                · repeat' (first | exact True.intro | exact Fit.v _ | exact fit_s rfl rfl (show 0 = ([aged c i].filter (fun x => !serveB c.ca c.fl (!c.up) c.up x)).length by rw [f2]; rfl) | refine And.intro ?_ ?_)
                · show FitB _ _ (tabl eC []) (tabl eC ([aged c i].filter (fun x => !serveB c.ca c.fl (!c.up) c.up x)))
                  rw [f2]
                  exact .tab fun _ _ => rfl
          · have b1 := bookOk (l := L) (by rcases hL with rfl | rfl <;> simp)
            obtain ⟨m, eP⟩ : ∃ m : Nat, pressL s L 0 c = (0, [aged c m]) := by
              rcases hL with rfl | rfl
              · exact ⟨i, again_ok i⟩
              · exact ⟨0, e⟩
            (conv => arg 1; whnf); (repeat' (first | (refine brt (by assumption) ?_; (conv => arg 1; whnf)) | (refine brf (by assumption) ?_; (conv => arg 1; whnf)) | fail))
            refine joinIn (fun _ : Unit => True) (fun _ => frm 143 [(5, .p 0 0), (9, .p 1 0)]) (fun _ => [.lit c.cs, .lit (bookC s 2 1 0), tabl eC [aged c m]]) ?_ (fun _ _ => ?_)
            · (conv => arg 1; whnf); (repeat' (first | (refine brt (by assumption) ?_; (conv => arg 1; whnf)) | (refine brf (by assumption) ?_; (conv => arg 1; whnf)) | fail))
              refine joinTo () [0, 1, 3] trivial (by decide) ?_ ?_ rfl
              · repeat' (first | exact True.intro | exact Fit.dead _ | exact .p rfl | refine And.intro ?_ ?_)
              · refine ⟨⟨_, rfl, .lit (by repeat' (first | exact True.intro | exact Fit.dead _ | exact Fit.v _ | exact .i fun _ _ => rfl | exact Fit.ip | exact .p rfl | exact .q rfl | exact .s rfl | exact .y rfl | refine Fit.al ?_ | refine Fit.fl ?_ ?_ | refine And.intro ?_ ?_))⟩, ⟨_, rfl, .lit ?_⟩, ⟨_, rfl, ?_⟩, trivial⟩
                · repeat' (first | exact True.intro | exact Fit.v _ | exact fit_s rfl rfl (show 1 = (pressL s (rows eC L.length fun k => eC.enc (L.getD k eC.dflt)) 0 c).2.length by rw [rows_row, eP]; rfl) | refine And.intro ?_ ?_)
                · show FitB _ _ (tabl eC [aged c m]) (tabl eC (pressL s (rows eC L.length fun k => eC.enc (L.getD k eC.dflt)) 0 c).2)
                  rw [rows_row, eP]
                  exact .tab fun _ _ => rfl
            · have f3 : [aged c m].filter (serveB c.ca c.fl c.up (!c.up)) = [aged c m] := by rw [List.filter_cons, serve_both]; rfl
              have f4 : [aged c m].filter (fun x => !serveB c.ca c.fl c.up (!c.up) x) = [] := by rw [List.filter_cons, serve_both]; rfl
              have q7 : decide ((([aged c m].filter (serveB c.ca c.fl c.up (!c.up))).length : Int) = 1) = true := by rw [f3]; rfl
              have b2 := bookOk (l := [aged c m].filter (fun x => !serveB c.ca c.fl c.up (!c.up) x)) (by rw [f4]; decide)
              obtain ⟨F, hF⟩ : ∃ F, F = [aged c m].filter (fun x => !serveB c.ca c.fl c.up (!c.up) x) := ⟨_, rfl⟩
              have q8 : decide (((rows eC ([aged c m].filter (fun x => !serveB c.ca c.fl c.up (!c.up) x)).length fun k => eC.enc (([aged c m].filter (fun x => !serveB c.ca c.fl c.up (!c.up) x)).getD k eC.dflt)).length : Int) = 0) = true := by rw [rows_row, f4]; rfl
              have e9 : pressL s (rows eC ([aged c m].filter (fun x => !serveB c.ca c.fl c.up (!c.up) x)).length fun k => eC.enc (([aged c m].filter (fun x => !serveB c.ca c.fl c.up (!c.up) x)).getD k eC.dflt)) 0 c = (0, [aged c 0]) := by rw [rows_row, f4, e]
              have q9 : decide ((pressL s (rows eC ([aged c m].filter (fun x => !serveB c.ca c.fl c.up (!c.up) x)).length fun k => eC.enc (([aged c m].filter (fun x => !serveB c.ca c.fl c.up (!c.up) x)).getD k eC.dflt)) 0 c).1 = 0) = true := by rw [e9]; rfl
              have q10 : (decide ((0 : Int) ≤ 0) && decide ((0 : Int) < ((rows eC (pressL s (rows eC ([aged c m].filter (fun x => !serveB c.ca c.fl c.up (!c.up) x)).length fun k => eC.enc (([aged c m].filter (fun x => !serveB c.ca c.fl c.up (!c.up) x)).getD k eC.dflt)) 0 c).2.length fun k => eC.enc ((pressL s (rows eC ([aged c m].filter (fun x => !serveB c.ca c.fl c.up (!c.up) x)).length fun k => eC.enc (([aged c m].filter (fun x => !serveB c.ca c.fl c.up (!c.up) x)).getD k eC.dflt)) 0 c).2.getD k eC.dflt)).length : Int))) = true := by rw [rows_row, e9]; rfl
              have q11 : decide (0 + (0 : Int).toNat < (rows eC (pressL s (rows eC ([aged c m].filter (fun x => !serveB c.ca c.fl c.up (!c.up) x)).length fun k => eC.enc (([aged c m].filter (fun x => !serveB c.ca c.fl c.up (!c.up) x)).getD k eC.dflt)) 0 c).2.length fun k => eC.enc ((pressL s (rows eC ([aged c m].filter (fun x => !serveB c.ca c.fl c.up (!c.up) x)).length fun k => eC.enc (([aged c m].filter (fun x => !serveB c.ca c.fl c.up (!c.up) x)).getD k eC.dflt)) 0 c).2.getD k eC.dflt)).length) = true := by rw [rows_row, e9]; rfl
              (conv => arg 1; whnf); (repeat' (first | (refine brt (by assumption) ?_; (conv => arg 1; whnf)) | (refine brf (by assumption) ?_; (conv => arg 1; whnf)) | fail))
              (refine brt ?_ ?_; (focus (exact bookOk (l := (pressL s (rows eC ([aged c m].filter (fun x => !serveB c.ca c.fl c.up (!c.up) x)).length fun k => eC.enc (([aged c m].filter (fun x => !serveB c.ca c.fl c.up (!c.up) x)).getD k eC.dflt)) 0 c).2) (by rw [e9]; simp); done)); (conv => arg 1; whnf))
              (conv => arg 1; whnf); (repeat' (first | (refine brt (by assumption) ?_; (conv => arg 1; whnf)) | (refine brf (by assumption) ?_; (conv => arg 1; whnf)) | fail))
              refine finB ?_
              show true = decide (((rows eC (pressL s (rows eC ([aged c m].filter (fun x => !serveB c.ca c.fl c.up (!c.up) x)).length fun k => eC.enc (([aged c m].filter (fun x => !serveB c.ca c.fl c.up (!c.up) x)).getD k eC.dflt)) 0 c).2.length fun k => eC.enc ((pressL s (rows eC ([aged c m].filter (fun x => !serveB c.ca c.fl c.up (!c.up) x)).length fun k => eC.enc (([aged c m].filter (fun x => !serveB c.ca c.fl c.up (!c.up) x)).getD k eC.dflt)) 0 c).2.getD k eC.dflt)).getD 0 eC.dflt).ag = 0)
              rw [rows_row, e9]
              rfl
end Go.Proofs.Ytbilkjolopdeiaa.E
