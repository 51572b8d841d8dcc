/- The law FloorsGo: the floors of a set from one on are told exactly. -/
import Derived.Test.YtaneamfnjhiigaaDoorFloorsJE
import Derived.Test.YtaneamfnjhiigaaDoorERow
namespace Go.Proofs.YtaneamfnjhiigaaDoor.E
open Go
set_option linter.unusedSimpArgs false
set_option linter.unusedVariables false
set_option maxRecDepth 100000
set_option maxHeartbeats 4000000
def XFs : Cx := ((XF0.add 13 (.reads readsL) (borCtr ofG)).add 10 .pure (pureCtr nearG)).add 15 .pure (pureCtr toG)
theorem XFs_ok : CxOk Tryd.prog XFs := ((XF0_ok.bor of_ok).pure near_ok).pure to_ok
theorem speaks_ok : CtrOk Tryd.prog 6 (pureCtr (fn0 (giv true (boo true)))) :=
  pureCtr_ok XFs_ok Tryd.func6 (by decide) rfl fun args u h => by
    obtain ⟨rfl, h⟩ := fn0_some h
    obtain ⟨_, rfl⟩ := giv_some h
    refine ⟨rfl, rfl, ?_⟩
    clear h
    unfold runF
    (conv => arg 1; whnf); (repeat' (first | (refine brt (by assumption) ?_; (conv => arg 1; whnf)) | (refine brf (by assumption) ?_; (conv => arg 1; whnf)) | fail))
    exact finB (by decide)
noncomputable def XGo : Cx := (((((XFi.add 6 .pure (pureCtr (fn0 (giv true (boo true))))).add 9 (.foot reads2) (freshCtr listG)).add 11 .pure (pureCtr rnearG)).add 10 .pure (pureCtr nearG)).add 12 (.reads readsL) (borCtr sameIG))
theorem XGo_ok : CxOk Tryd.prog XGo := ((((XFi_ok.pure speaks_ok).fresh rlist_ok).pure rnear_ok).pure near_ok).bor sameI_ok
noncomputable def XGj : Cx := (XGo.join 100000).join 100002
theorem XGj_ok : CxOk Tryd.prog XGj := (XGo_ok.join 100000 rfl).join 100002 rfl
theorem take_done {l r : List Int} {k : Nat} (h : l = r) (hk : r.length ≤ k) : r = l.take k := by rw [h, List.take_of_length_le hk]
theorem take_full {l r x : List Int} {k : Nat} (h : l = r ++ x) (hk : r.length = k) : r = l.take k := by rw [h, ← hk, List.take_left]
theorem upL_len (s fr : Int) (k : Nat) : (upL s fr k).length ≤ k := by
  unfold upL
  rw [List.length_map]
  exact Nat.le_trans (List.length_filter_le _ _) (by rw [List.length_range]; exact Nat.le_refl _)
theorem dnL_len (s fr : Int) (k : Nat) : (dnL s fr k).length ≤ k := by
  unfold dnL
  rw [List.length_map]
  exact Nat.le_trans (List.length_filter_le _ _) (by rw [List.length_range]; exact Nat.le_refl _)
theorem int_arg {u : AV} (h : isArg tt 3 u) : ∃ n : Int, u = i64 n ∧ -9223372036854775808 ≤ n ∧ n ≤ 9223372036854775807 := by
  obtain ⟨n, e, w⟩ := h
  exact ⟨n, (List.cons.inj e).1, wf_i64 w⟩
theorem u64_arg {u : AV} (h : isArg tt 22 u) : ∃ n : Int, u = u64 n ∧ okU n := by
  obtain ⟨n, e, w⟩ := h
  refine ⟨n, (List.cons.inj e).1, ?_⟩
  have := wf_u64 w
  exact ⟨by omega, by omega⟩
theorem ints_row {u : AV} (h : isArg tt 24 u) : ∃ l : List Int, u = row eI l ∧ l.length < 281474976710656 ∧ ∀ x ∈ l, -9223372036854775808 ≤ x ∧ x ≤ 9223372036854775807 := by
  obtain ⟨m, g, e, hm, hg, hz⟩ := h
  obtain rfl := (List.cons.inj e).1
  exact row_eq eI (m := m) (g := g) (p := fun x => -9223372036854775808 ≤ x ∧ x ≤ 9223372036854775807) (fun k hk => by obtain ⟨z, hz, hw⟩ := hg k hk; exact ⟨z, hz, wf_i64 hw⟩) hz (by have : m * 1 < 281474976710656 := hm; omega)
theorem near_cases (s f : Int) : ((nearF s f).2 = true → 0 ≤ (nearF s f).1) ∧ ((nearF s f).2 = false → (nearF s f).1 = 0) := by
  unfold nearF
  cases hd : dnL s (clampF f) 64 with
  | nil =>
    cases hu : upL s (clampF f) 64 with
    | nil => exact ⟨fun h => (by cases h), fun _ => rfl⟩
    | cons x l => exact ⟨fun _ => (up_mem (l := x) (by rw [hu]; exact List.mem_cons_self) (Nat.le_refl 64)).1, fun h => (by cases h)⟩
  | cons y l' =>
    have hy := (dn_mem (l := y) (s := s) (f := clampF f) (j := 64) (by rw [hd]; exact List.mem_cons_self)).1
    cases hu : upL s (clampF f) 64 with
    | nil => exact ⟨fun _ => hy, fun h => (by cases h)⟩
    | cons x l =>
      have hx := (up_mem (l := x) (s := s) (f := clampF f) (m := 64) (by rw [hu]; exact List.mem_cons_self) (Nat.le_refl 64)).1
      simp only
      cases decide (x - clampF f < clampF f - y) with
      | true => exact ⟨fun _ => hx, fun h => (by cases h)⟩
      | false => exact ⟨fun _ => hy, fun h => (by cases h)⟩
theorem FloorsGo (us : List AV) (h : areArgs tt [22, 3, 3] us) : runF XGj Tryd.f3 us [] (boo true) [] := by
  obtain ⟨_, _, rfl, h1, _, _, rfl, h2, _, _, rfl, h3, rfl⟩ := h
  obtain ⟨s, rfl, hs⟩ := u64_arg h1
  obtain ⟨fr, rfl, hf0, hf1⟩ := int_arg h2
  obtain ⟨most, rfl, _, _⟩ := int_arg h3
  clear h1 h2 h3
  obtain ⟨kk, hk0, hk⟩ : ∃ kk : Nat, bits .and .i64 most 63 = (kk : Int) ∧ kk < 64 := ⟨(most % 64).toNat, by rw [and63]; omega, by omega⟩
  obtain ⟨U, hU⟩ : ∃ U, U = (upL s fr 64).take kk := ⟨_, rfl⟩
  obtain ⟨D, hD⟩ : ∃ D, D = (dnL s fr 64).take kk := ⟨_, rfl⟩
  obtain ⟨x0, hx0⟩ : ∃ x, x = bits .andNot .u64 s (toF fr) := ⟨_, rfl⟩
  have U0 : UpI s fr 0 x0 := by rw [hx0]; exact up_zero s fr
  unfold runF
  (conv => arg 1; whnf); (repeat' (first | (refine brt (by assumption) ?_; (conv => arg 1; whnf)) | (refine brf (by assumption) ?_; (conv => arg 1; whnf)) | fail))
  rw [hk0]
  (conv => arg 1; whnf); (repeat' (first | (refine brt (by assumption) ?_; (conv => arg 1; whnf)) | (refine brf (by assumption) ?_; (conv => arg 1; whnf)) | fail))
  refine joinIn (fun _ : Unit => True) (fun _ => frm 100 [(0, u64 s), (1, i64 fr), (7, .p 0 0), (8, .p 3 0), (9, .p 4 0)]) (fun _ => [.lit [i64 kk], tabl eI U, tabl eI [], .lit [.s 1 1 0 U.length], .lit [.s 2 1 0 0]]) ?_ (fun _ _ => ?_)
  · (conv => arg 1; whnf); (repeat' (first | (refine brt (by assumption) ?_; (conv => arg 1; whnf)) | (refine brf (by assumption) ?_; (conv => arg 1; whnf)) | fail))
    refine loopX [0, 4] (fun x : Nat × Int => UpI s fr x.1 x.2 ∧ (upL s fr x.1).length ≤ kk) (fun x => [(4, u64 x.2)]) (fun x => [(1, .gone), (3, .lit [.s 8 1 0 (upL s fr x.1).length])]) (fun x => [tabl eI (upL s fr x.1)]) [1] (fun x => 64 - x.1) (0, x0) ⟨U0, Nat.zero_le _⟩ rfl rfl ?_ ?_ fun x hi => ?_
    · rw [hx0]; repeat' (first | exact True.intro | exact Fit.dead _ | exact Fit.v _ | exact .i fun _ _ => rfl | exact Fit.ip | exact .p rfl | exact .q rfl | exact .s rfl | exact .y rfl | exact Fit.z | exact ⟨_, rfl, .gone _⟩ | exact ⟨_, rfl, .lrec _⟩ | exact ⟨_, rfl, .held⟩ | exact ⟨_, rfl, .tab fun _ _ => rfl⟩ | refine Fit.al ?_ | refine Fit.fl ?_ ?_ | refine ⟨_, rfl, .lit ?_⟩ | refine And.intro ?_ ?_)
    · repeat' (first | exact True.intro | exact Fit.dead _ | exact Fit.v _ | exact .i fun _ _ => rfl | exact Fit.ip | exact .p rfl | exact .q rfl | exact .s rfl | exact .y rfl | exact Fit.z | exact ⟨_, rfl, .gone _⟩ | exact ⟨_, rfl, .lrec _⟩ | exact ⟨_, rfl, .held⟩ | exact ⟨_, rfl, .tab fun _ _ => rfl⟩ | refine Fit.al ?_ | refine Fit.fl ?_ ?_ | refine ⟨_, rfl, .lit ?_⟩ | refine And.intro ?_ ?_)
      exact ⟨_, rfl, .tab fun i hi => absurd hi (Nat.not_lt_zero i)⟩
    · obtain ⟨m, x⟩ := x
      obtain ⟨hu, hl⟩ := hi
      simp only at hu hl
      have cx : (decide (0 ≤ x) && decide (x < 18446744073709551616)) = true := and2 (decide_eq_true hu.ok.1) (decide_eq_true hu.ok.2)
      (conv => arg 1; whnf)
      refine br (fun h1 => ?_) (fun h1 => ?_)
      · have hx0 : ¬ x = 0 := by simpa using h1
        obtain ⟨d1, d2, d3, d4, d5, d6⟩ := hu.next hx0
        have et : tzN x = (lowI x : Int) := by unfold tzN; rw [if_neg hx0]
        (conv => arg 1; whnf); (repeat' (first | (refine brt (by assumption) ?_; (conv => arg 1; whnf)) | (refine brf (by assumption) ?_; (conv => arg 1; whnf)) | fail))
        refine br (fun h2 => ?_) (fun h2 => ?_)
        · have h2 := of_decide_eq_true h2
          have hlen : (upL s fr m).length = kk := by have : ((upL s fr m).length : Int) = (kk : Int) := h2; omega
          obtain ⟨r, hr⟩ := upL_prefix s fr hu.le
          have hUm : upL s fr m = U := by rw [hU]; exact take_full hr hlen
          (conv => arg 1; whnf); (repeat' (first | (refine brt (by assumption) ?_; (conv => arg 1; whnf)) | (refine brf (by assumption) ?_; (conv => arg 1; whnf)) | fail))
          refine leaveRet ?_
          show tr _
          (conv => arg 1; whnf); (repeat' (first | (refine brt (by assumption) ?_; (conv => arg 1; whnf)) | (refine brf (by assumption) ?_; (conv => arg 1; whnf)) | fail))
          refine joinTo () [0, 8, 2, 3, 4] trivial (by decide) ?_ ?_ rfl
          · repeat' (first | exact True.intro | exact Fit.dead _ | exact Fit.v _ | exact .i fun _ _ => rfl | exact Fit.ip | exact .p rfl | exact .q rfl | exact .s rfl | exact .y rfl | exact Fit.z | exact ⟨_, rfl, .gone _⟩ | exact ⟨_, rfl, .lrec _⟩ | exact ⟨_, rfl, .held⟩ | exact ⟨_, rfl, .tab fun _ _ => rfl⟩ | refine Fit.al ?_ | refine Fit.fl ?_ ?_ | refine ⟨_, rfl, .lit ?_⟩ | refine And.intro ?_ ?_)
          · rw [← hUm]
            repeat' (first | exact True.intro | exact Fit.dead _ | exact Fit.v _ | exact .i fun _ _ => rfl | exact Fit.ip | exact .p rfl | exact .q rfl | exact .s rfl | exact .y rfl | exact Fit.z | exact ⟨_, rfl, .gone _⟩ | exact ⟨_, rfl, .lrec _⟩ | exact ⟨_, rfl, .held⟩ | exact ⟨_, rfl, .tab fun _ _ => rfl⟩ | refine Fit.al ?_ | refine Fit.fl ?_ ?_ | refine ⟨_, rfl, .lit ?_⟩ | refine And.intro ?_ ?_)
            exact ⟨_, rfl, .tab fun i hi => absurd hi (Nat.not_lt_zero i)⟩
        · have h2 := of_decide_eq_false h2
          have hlen : (upL s fr m).length < kk := by
            have : ¬ ((upL s fr m).length : Int) = (kk : Int) := h2
            omega
          have e5 : ((0 + (upL s fr (m, x).fst).length).ble (upL s fr (m, x).fst).length && ((0 + 1).ble 1 && ((upL s fr (m, x).fst).length + 1).ble 4294967295)) = true := and2 (Nat.ble_eq_true_of_le (by omega)) (and2 rfl (Nat.ble_eq_true_of_le (by simp only; omega)))
          (conv => arg 1; whnf); (repeat' (first | (refine brt (by assumption) ?_; (conv => arg 1; whnf)) | (refine brf (by assumption) ?_; (conv => arg 1; whnf)) | fail))
          refine againD (lowI x + 1, bits .and .u64 x (IntKind.u64.wrap (x - 1))) [0, 1, 2, 3, 4, 5, 6, 7, 10] ⟨d6, by simp only; rw [d5, List.length_append]; simp; omega⟩ (by show 64 - (lowI x + 1) < 64 - m; omega) rfl ?_ ?_ rfl
          · repeat' (first | exact True.intro | exact Fit.dead _ | exact Fit.v _ | exact .i fun _ _ => rfl | exact Fit.ip | exact .p rfl | exact .q rfl | exact .s rfl | exact .y rfl | exact Fit.z | exact ⟨_, rfl, .gone _⟩ | exact ⟨_, rfl, .lrec _⟩ | exact ⟨_, rfl, .held⟩ | exact ⟨_, rfl, .tab fun _ _ => rfl⟩ | refine Fit.al ?_ | refine Fit.fl ?_ ?_ | refine ⟨_, rfl, .lit ?_⟩ | refine And.intro ?_ ?_)
          · simp only
            rw [d5]
            repeat' (first | exact True.intro | exact Fit.dead _ | exact Fit.v _ | exact .i fun _ _ => rfl | exact Fit.ip | exact .p rfl | exact .q rfl | exact .s rfl | exact .y rfl | exact Fit.z | exact ⟨_, rfl, .gone _⟩ | exact ⟨_, rfl, .lrec _⟩ | exact ⟨_, rfl, .held⟩ | exact ⟨_, rfl, .tab fun _ _ => rfl⟩ | refine Fit.al ?_ | refine Fit.fl ?_ ?_ | refine ⟨_, rfl, .lit ?_⟩ | refine And.intro ?_ ?_)
            · exact fit_s rfl rfl List.length_append
            · exact ⟨_, rfl, fit_tab (e := eI) (RowIs.snoc eI (RowIs.all eI (RowIs.row eI _)) (congrArg (fun z => [i64 z]) et))⟩
      · have hx0 : x = 0 := by simpa using h1
        subst hx0
        have e := hu.fin
        have hUm : upL s fr m = U := by rw [hU]; exact take_done e hl
        (conv => arg 1; whnf); (repeat' (first | (refine brt (by assumption) ?_; (conv => arg 1; whnf)) | (refine brf (by assumption) ?_; (conv => arg 1; whnf)) | fail))
        refine leave ?_
        show tr _
        (conv => arg 1; whnf); (repeat' (first | (refine brt (by assumption) ?_; (conv => arg 1; whnf)) | (refine brf (by assumption) ?_; (conv => arg 1; whnf)) | fail))
        refine joinTo () [0, 8, 2, 3, 4] trivial (by decide) ?_ ?_ rfl
        · repeat' (first | exact True.intro | exact Fit.dead _ | exact Fit.v _ | exact .i fun _ _ => rfl | exact Fit.ip | exact .p rfl | exact .q rfl | exact .s rfl | exact .y rfl | exact Fit.z | exact ⟨_, rfl, .gone _⟩ | exact ⟨_, rfl, .lrec _⟩ | exact ⟨_, rfl, .held⟩ | exact ⟨_, rfl, .tab fun _ _ => rfl⟩ | refine Fit.al ?_ | refine Fit.fl ?_ ?_ | refine ⟨_, rfl, .lit ?_⟩ | refine And.intro ?_ ?_)
        · rw [← hUm]
          repeat' (first | exact True.intro | exact Fit.dead _ | exact Fit.v _ | exact .i fun _ _ => rfl | exact Fit.ip | exact .p rfl | exact .q rfl | exact .s rfl | exact .y rfl | exact Fit.z | exact ⟨_, rfl, .gone _⟩ | exact ⟨_, rfl, .lrec _⟩ | exact ⟨_, rfl, .held⟩ | exact ⟨_, rfl, .tab fun _ _ => rfl⟩ | refine Fit.al ?_ | refine Fit.fl ?_ ?_ | refine ⟨_, rfl, .lit ?_⟩ | refine And.intro ?_ ?_)
          exact ⟨_, rfl, .tab fun i hi => absurd hi (Nat.not_lt_zero i)⟩
  · (conv => arg 1; whnf); (repeat' (first | (refine brt (by assumption) ?_; (conv => arg 1; whnf)) | (refine brf (by assumption) ?_; (conv => arg 1; whnf)) | fail))
    refine joinIn (fun _ : Unit => True) (fun _ => frm 100 [(0, u64 s), (1, i64 fr), (7, .p 0 0), (8, .p 3 0), (9, .p 4 0)]) (fun _ => [.lit [i64 kk], tabl eI U, tabl eI D, .lit [.s 1 1 0 U.length], .lit [.s 2 1 0 D.length]]) ?_ (fun _ _ => ?_)
    · rcases Int.lt_or_le fr 64 with hlt | hge
      · have q1 : decide (fr < 64) = true := decide_eq_true hlt
        obtain ⟨z0, hz0⟩ : ∃ z, z = bits .and .u64 s (toF (IntKind.i64.wrap (fr + 1))) := ⟨_, rfl⟩
        have Z0 : DnI s fr 0 z0 := by rw [hz0]; exact dn_zero hlt (wrap_i64' _ (by omega) (by omega))
        (conv => arg 1; whnf); (repeat' (first | (refine brt (by assumption) ?_; (conv => arg 1; whnf)) | (refine brf (by assumption) ?_; (conv => arg 1; whnf)) | fail))
        refine loopX [0, 4] (fun x : Nat × Int => DnI s fr x.1 x.2 ∧ (dnL s fr x.1).length ≤ kk) (fun x => [(4, u64 x.2)]) (fun x => [(2, .gone), (4, .lit [.s 8 1 0 (dnL s fr x.1).length])]) (fun x => [tabl eI (dnL s fr x.1)]) [2] (fun x => 64 - x.1) (0, z0) ⟨Z0, Nat.zero_le _⟩ rfl rfl ?_ ?_ fun x hi => ?_
        · repeat' (first | exact True.intro | exact Fit.dead _ | exact Fit.v _ | exact .y rfl | exact Fit.v' (congrArg (Value.int .u64) hz0) | refine And.intro ?_ ?_)
        · repeat' (first | exact True.intro | exact Fit.dead _ | exact Fit.v _ | exact .i fun _ _ => rfl | exact Fit.ip | exact .p rfl | exact .q rfl | exact .s rfl | exact .y rfl | exact Fit.z | exact ⟨_, rfl, .gone _⟩ | exact ⟨_, rfl, .lrec _⟩ | exact ⟨_, rfl, .held⟩ | exact ⟨_, rfl, .tab fun _ _ => rfl⟩ | refine Fit.al ?_ | refine Fit.fl ?_ ?_ | refine ⟨_, rfl, .lit ?_⟩ | refine And.intro ?_ ?_)
        · obtain ⟨m, x⟩ := x
          obtain ⟨hu, hl⟩ := hi
          simp only at hu hl
          have cx : (decide (0 ≤ x) && decide (x < 18446744073709551616)) = true := and2 (decide_eq_true hu.ok.1) (decide_eq_true hu.ok.2)
          (conv => arg 1; whnf)
          refine br (fun h1 => ?_) (fun h1 => ?_)
          · have hx0 : ¬ x = 0 := by simpa using h1
            obtain ⟨d1, d2, d3, d4, d5, d6⟩ := hu.next hx0
            have et : IntKind.i64.wrap (lenI x - 1) = (topI x : Int) := topV hu.ok hx0
            (conv => arg 1; whnf); (repeat' (first | (refine brt (by assumption) ?_; (conv => arg 1; whnf)) | (refine brf (by assumption) ?_; (conv => arg 1; whnf)) | fail))
            refine br (fun h2 => ?_) (fun h2 => ?_)
            · have h2 := of_decide_eq_true h2
              have hlen : (dnL s fr m).length = kk := by have : ((dnL s fr m).length : Int) = (kk : Int) := h2; omega
              obtain ⟨r, hr⟩ := dnL_prefix s fr hu.le
              have hUm : dnL s fr m = D := by rw [hD]; exact take_full hr hlen
              (conv => arg 1; whnf); (repeat' (first | (refine brt (by assumption) ?_; (conv => arg 1; whnf)) | (refine brf (by assumption) ?_; (conv => arg 1; whnf)) | fail))
              refine leaveRet ?_
              show tr _
              (conv => arg 1; whnf); (repeat' (first | (refine brt (by assumption) ?_; (conv => arg 1; whnf)) | (refine brf (by assumption) ?_; (conv => arg 1; whnf)) | fail))
              refine joinTo () [0, 1, 8, 3, 4] trivial (by decide) ?_ ?_ rfl
              · repeat' (first | exact True.intro | exact Fit.dead _ | exact Fit.v _ | exact .i fun _ _ => rfl | exact Fit.ip | exact .p rfl | exact .q rfl | exact .s rfl | exact .y rfl | exact Fit.z | exact ⟨_, rfl, .gone _⟩ | exact ⟨_, rfl, .lrec _⟩ | exact ⟨_, rfl, .held⟩ | exact ⟨_, rfl, .tab fun _ _ => rfl⟩ | refine Fit.al ?_ | refine Fit.fl ?_ ?_ | refine ⟨_, rfl, .lit ?_⟩ | refine And.intro ?_ ?_)
              · rw [← hUm]
                repeat' (first | exact True.intro | exact Fit.dead _ | exact Fit.v _ | exact .i fun _ _ => rfl | exact Fit.ip | exact .p rfl | exact .q rfl | exact .s rfl | exact .y rfl | exact Fit.z | exact ⟨_, rfl, .gone _⟩ | exact ⟨_, rfl, .lrec _⟩ | exact ⟨_, rfl, .held⟩ | exact ⟨_, rfl, .tab fun _ _ => rfl⟩ | refine Fit.al ?_ | refine Fit.fl ?_ ?_ | refine ⟨_, rfl, .lit ?_⟩ | refine And.intro ?_ ?_)
            · have h2 := of_decide_eq_false h2
              have hlen : (dnL s fr m).length < kk := by
                have : ¬ ((dnL s fr m).length : Int) = (kk : Int) := h2
                omega
              have e5 : ((0 + (dnL s fr (m, x).fst).length).ble (dnL s fr (m, x).fst).length && ((0 + 1).ble 1 && ((dnL s fr (m, x).fst).length + 1).ble 4294967295)) = true := and2 (Nat.ble_eq_true_of_le (by omega)) (and2 rfl (Nat.ble_eq_true_of_le (by simp only; omega)))
              (conv => arg 1; whnf); (repeat' (first | (refine brt (by assumption) ?_; (conv => arg 1; whnf)) | (refine brf (by assumption) ?_; (conv => arg 1; whnf)) | fail))
              refine againD (63 - topI x + 1, woutF x (topI x : Int)) [0, 1, 2, 3, 4, 5, 6, 7, 10] ⟨d6, by simp only; rw [d5, List.length_append]; simp; omega⟩ (by show 64 - (63 - topI x + 1) < 64 - m; omega) rfl ?_ ?_ rfl
              · repeat' (first | exact True.intro | exact Fit.dead _ | exact Fit.v _ | exact .y rfl | exact Fit.v' (congrArg (fun z => Value.int .u64 (woutF x z)) et.symm) | refine And.intro ?_ ?_)
              · simp only
                rw [d5]
                repeat' (first | exact True.intro | exact Fit.dead _ | exact Fit.v _ | exact .i fun _ _ => rfl | exact Fit.ip | exact .p rfl | exact .q rfl | exact .s rfl | exact .y rfl | exact Fit.z | exact ⟨_, rfl, .gone _⟩ | exact ⟨_, rfl, .lrec _⟩ | exact ⟨_, rfl, .held⟩ | exact ⟨_, rfl, .tab fun _ _ => rfl⟩ | refine Fit.al ?_ | refine Fit.fl ?_ ?_ | refine ⟨_, rfl, .lit ?_⟩ | refine And.intro ?_ ?_)
                · exact fit_s rfl rfl List.length_append
                · exact ⟨_, rfl, fit_tab (e := eI) (RowIs.snoc eI (RowIs.all eI (RowIs.row eI _)) (congrArg (fun z => [i64 z]) et))⟩
          · have hx0 : x = 0 := by simpa using h1
            subst hx0
            have e := hu.fin
            have hUm : dnL s fr m = D := by rw [hD]; exact take_done e hl
            (conv => arg 1; whnf); (repeat' (first | (refine brt (by assumption) ?_; (conv => arg 1; whnf)) | (refine brf (by assumption) ?_; (conv => arg 1; whnf)) | fail))
            refine leave ?_
            show tr _
            (conv => arg 1; whnf); (repeat' (first | (refine brt (by assumption) ?_; (conv => arg 1; whnf)) | (refine brf (by assumption) ?_; (conv => arg 1; whnf)) | fail))
            refine joinTo () [0, 1, 8, 3, 4] trivial (by decide) ?_ ?_ rfl
            · repeat' (first | exact True.intro | exact Fit.dead _ | exact Fit.v _ | exact .i fun _ _ => rfl | exact Fit.ip | exact .p rfl | exact .q rfl | exact .s rfl | exact .y rfl | exact Fit.z | exact ⟨_, rfl, .gone _⟩ | exact ⟨_, rfl, .lrec _⟩ | exact ⟨_, rfl, .held⟩ | exact ⟨_, rfl, .tab fun _ _ => rfl⟩ | refine Fit.al ?_ | refine Fit.fl ?_ ?_ | refine ⟨_, rfl, .lit ?_⟩ | refine And.intro ?_ ?_)
            · rw [← hUm]
              repeat' (first | exact True.intro | exact Fit.dead _ | exact Fit.v _ | exact .i fun _ _ => rfl | exact Fit.ip | exact .p rfl | exact .q rfl | exact .s rfl | exact .y rfl | exact Fit.z | exact ⟨_, rfl, .gone _⟩ | exact ⟨_, rfl, .lrec _⟩ | exact ⟨_, rfl, .held⟩ | exact ⟨_, rfl, .tab fun _ _ => rfl⟩ | refine Fit.al ?_ | refine Fit.fl ?_ ?_ | refine ⟨_, rfl, .lit ?_⟩ | refine And.intro ?_ ?_)
      · have q1 : decide (fr < 64) = false := decide_eq_false (by omega)
        obtain ⟨z0, hz0⟩ : ∃ z, z = s := ⟨_, rfl⟩
        have Z0 : DnI s fr 0 z0 := by rw [hz0]; exact dn_zero' hs hge
        (conv => arg 1; whnf); (repeat' (first | (refine brt (by assumption) ?_; (conv => arg 1; whnf)) | (refine brf (by assumption) ?_; (conv => arg 1; whnf)) | fail))
        refine loopX [0, 4] (fun x : Nat × Int => DnI s fr x.1 x.2 ∧ (dnL s fr x.1).length ≤ kk) (fun x => [(4, u64 x.2)]) (fun x => [(2, .gone), (4, .lit [.s 8 1 0 (dnL s fr x.1).length])]) (fun x => [tabl eI (dnL s fr x.1)]) [2] (fun x => 64 - x.1) (0, z0) ⟨Z0, Nat.zero_le _⟩ rfl rfl ?_ ?_ fun x hi => ?_
        · repeat' (first | exact True.intro | exact Fit.dead _ | exact Fit.v _ | exact .y rfl | exact Fit.v' (congrArg (Value.int .u64) hz0) | refine And.intro ?_ ?_)
        · repeat' (first | exact True.intro | exact Fit.dead _ | exact Fit.v _ | exact .i fun _ _ => rfl | exact Fit.ip | exact .p rfl | exact .q rfl | exact .s rfl | exact .y rfl | exact Fit.z | exact ⟨_, rfl, .gone _⟩ | exact ⟨_, rfl, .lrec _⟩ | exact ⟨_, rfl, .held⟩ | exact ⟨_, rfl, .tab fun _ _ => rfl⟩ | refine Fit.al ?_ | refine Fit.fl ?_ ?_ | refine ⟨_, rfl, .lit ?_⟩ | refine And.intro ?_ ?_)
        · obtain ⟨m, x⟩ := x
          obtain ⟨hu, hl⟩ := hi
          simp only at hu hl
          have cx : (decide (0 ≤ x) && decide (x < 18446744073709551616)) = true := and2 (decide_eq_true hu.ok.1) (decide_eq_true hu.ok.2)
          (conv => arg 1; whnf)
          refine br (fun h1 => ?_) (fun h1 => ?_)
          · have hx0 : ¬ x = 0 := by simpa using h1
            obtain ⟨d1, d2, d3, d4, d5, d6⟩ := hu.next hx0
            have et : IntKind.i64.wrap (lenI x - 1) = (topI x : Int) := topV hu.ok hx0
            (conv => arg 1; whnf); (repeat' (first | (refine brt (by assumption) ?_; (conv => arg 1; whnf)) | (refine brf (by assumption) ?_; (conv => arg 1; whnf)) | fail))
            refine br (fun h2 => ?_) (fun h2 => ?_)
            · have h2 := of_decide_eq_true h2
              have hlen : (dnL s fr m).length = kk := by have : ((dnL s fr m).length : Int) = (kk : Int) := h2; omega
              obtain ⟨r, hr⟩ := dnL_prefix s fr hu.le
              have hUm : dnL s fr m = D := by rw [hD]; exact take_full hr hlen
              (conv => arg 1; whnf); (repeat' (first | (refine brt (by assumption) ?_; (conv => arg 1; whnf)) | (refine brf (by assumption) ?_; (conv => arg 1; whnf)) | fail))
              refine leaveRet ?_
              show tr _
              (conv => arg 1; whnf); (repeat' (first | (refine brt (by assumption) ?_; (conv => arg 1; whnf)) | (refine brf (by assumption) ?_; (conv => arg 1; whnf)) | fail))
              refine joinTo () [0, 1, 8, 3, 4] trivial (by decide) ?_ ?_ rfl
              · repeat' (first | exact True.intro | exact Fit.dead _ | exact Fit.v _ | exact .i fun _ _ => rfl | exact Fit.ip | exact .p rfl | exact .q rfl | exact .s rfl | exact .y rfl | exact Fit.z | exact ⟨_, rfl, .gone _⟩ | exact ⟨_, rfl, .lrec _⟩ | exact ⟨_, rfl, .held⟩ | exact ⟨_, rfl, .tab fun _ _ => rfl⟩ | refine Fit.al ?_ | refine Fit.fl ?_ ?_ | refine ⟨_, rfl, .lit ?_⟩ | refine And.intro ?_ ?_)
              · rw [← hUm]
                repeat' (first | exact True.intro | exact Fit.dead _ | exact Fit.v _ | exact .i fun _ _ => rfl | exact Fit.ip | exact .p rfl | exact .q rfl | exact .s rfl | exact .y rfl | exact Fit.z | exact ⟨_, rfl, .gone _⟩ | exact ⟨_, rfl, .lrec _⟩ | exact ⟨_, rfl, .held⟩ | exact ⟨_, rfl, .tab fun _ _ => rfl⟩ | refine Fit.al ?_ | refine Fit.fl ?_ ?_ | refine ⟨_, rfl, .lit ?_⟩ | refine And.intro ?_ ?_)
            · have h2 := of_decide_eq_false h2
              have hlen : (dnL s fr m).length < kk := by
                have : ¬ ((dnL s fr m).length : Int) = (kk : Int) := h2
                omega
              have e5 : ((0 + (dnL s fr (m, x).fst).length).ble (dnL s fr (m, x).fst).length && ((0 + 1).ble 1 && ((dnL s fr (m, x).fst).length + 1).ble 4294967295)) = true := and2 (Nat.ble_eq_true_of_le (by omega)) (and2 rfl (Nat.ble_eq_true_of_le (by simp only; omega)))
              (conv => arg 1; whnf); (repeat' (first | (refine brt (by assumption) ?_; (conv => arg 1; whnf)) | (refine brf (by assumption) ?_; (conv => arg 1; whnf)) | fail))
              refine againD (63 - topI x + 1, woutF x (topI x : Int)) [0, 1, 2, 3, 4, 5, 6, 7, 10] ⟨d6, by simp only; rw [d5, List.length_append]; simp; omega⟩ (by show 64 - (63 - topI x + 1) < 64 - m; omega) rfl ?_ ?_ rfl
              · repeat' (first | exact True.intro | exact Fit.dead _ | exact Fit.v _ | exact .y rfl | exact Fit.v' (congrArg (fun z => Value.int .u64 (woutF x z)) et.symm) | refine And.intro ?_ ?_)
              · simp only
                rw [d5]
                repeat' (first | exact True.intro | exact Fit.dead _ | exact Fit.v _ | exact .i fun _ _ => rfl | exact Fit.ip | exact .p rfl | exact .q rfl | exact .s rfl | exact .y rfl | exact Fit.z | exact ⟨_, rfl, .gone _⟩ | exact ⟨_, rfl, .lrec _⟩ | exact ⟨_, rfl, .held⟩ | exact ⟨_, rfl, .tab fun _ _ => rfl⟩ | refine Fit.al ?_ | refine Fit.fl ?_ ?_ | refine ⟨_, rfl, .lit ?_⟩ | refine And.intro ?_ ?_)
                · exact fit_s rfl rfl List.length_append
                · exact ⟨_, rfl, fit_tab (e := eI) (RowIs.snoc eI (RowIs.all eI (RowIs.row eI _)) (congrArg (fun z => [i64 z]) et))⟩
          · have hx0 : x = 0 := by simpa using h1
            subst hx0
            have e := hu.fin
            have hUm : dnL s fr m = D := by rw [hD]; exact take_done e hl
            (conv => arg 1; whnf); (repeat' (first | (refine brt (by assumption) ?_; (conv => arg 1; whnf)) | (refine brf (by assumption) ?_; (conv => arg 1; whnf)) | fail))
            refine leave ?_
            show tr _
            (conv => arg 1; whnf); (repeat' (first | (refine brt (by assumption) ?_; (conv => arg 1; whnf)) | (refine brf (by assumption) ?_; (conv => arg 1; whnf)) | fail))
            refine joinTo () [0, 1, 8, 3, 4] trivial (by decide) ?_ ?_ rfl
            · repeat' (first | exact True.intro | exact Fit.dead _ | exact Fit.v _ | exact .i fun _ _ => rfl | exact Fit.ip | exact .p rfl | exact .q rfl | exact .s rfl | exact .y rfl | exact Fit.z | exact ⟨_, rfl, .gone _⟩ | exact ⟨_, rfl, .lrec _⟩ | exact ⟨_, rfl, .held⟩ | exact ⟨_, rfl, .tab fun _ _ => rfl⟩ | refine Fit.al ?_ | refine Fit.fl ?_ ?_ | refine ⟨_, rfl, .lit ?_⟩ | refine And.intro ?_ ?_)
            · rw [← hUm]
              repeat' (first | exact True.intro | exact Fit.dead _ | exact Fit.v _ | exact .i fun _ _ => rfl | exact Fit.ip | exact .p rfl | exact .q rfl | exact .s rfl | exact .y rfl | exact Fit.z | exact ⟨_, rfl, .gone _⟩ | exact ⟨_, rfl, .lrec _⟩ | exact ⟨_, rfl, .held⟩ | exact ⟨_, rfl, .tab fun _ _ => rfl⟩ | refine Fit.al ?_ | refine Fit.fl ?_ ?_ | refine ⟨_, rfl, .lit ?_⟩ | refine And.intro ?_ ?_)
    · have cs : (decide (0 ≤ s) && decide (s < 18446744073709551616)) = true := and2 (decide_eq_true hs.1) (decide_eq_true hs.2)
      have cs' : (!decide ((0 : Int) = 0)) = false := rfl
      (conv => arg 1; whnf); (repeat' (first | (refine brt (by assumption) ?_; (conv => arg 1; whnf)) | (refine brf (by assumption) ?_; (conv => arg 1; whnf)) | fail))
      (refine brt ?_ ?_; (focus (exact and2 rfl (and2 (and2 (and2 cs rfl) rfl) rfl); done)); (conv => arg 1; whnf))
      (refine brt ?_ ?_; (focus (exact and2 rfl (and2 (and2 (and2 cs rfl) rfl) rfl); done)); (conv => arg 1; whnf))
      (conv => arg 1; whnf); (repeat' (first | (refine brt (by assumption) ?_; (conv => arg 1; whnf)) | (refine brf (by assumption) ?_; (conv => arg 1; whnf)) | fail))
      obtain ⟨f0, ok0, hn, hn1, hn2⟩ : ∃ f0 ok0, nearF s fr = (f0, ok0) ∧ (ok0 = true → 0 ≤ f0) ∧ (ok0 = false → f0 = 0) := ⟨(nearF s fr).1, (nearF s fr).2, rfl, (near_cases s fr).1, (near_cases s fr).2⟩
      have er : rnearF s fr = cond ok0 f0 (-1) := by unfold rnearF; rw [hn]
      rw [hn, er]
      have mU : mm false (kk : Int) ((listL s fr true 64).length : Int) = (U.length : Int) := by
        rw [hU, List.length_take]; show mm false (kk : Int) ((upL s fr 64).length : Int) = _; unfold mm; simp only; split <;> omega
      have mD : mm false (kk : Int) ((listL s fr false 64).length : Int) = (D.length : Int) := by
        rw [hD, List.length_take]; show mm false (kk : Int) ((dnL s fr 64).length : Int) = _; unfold mm; simp only; split <;> omega
      have lU : U.length ≤ (listL s fr true 64).length := by rw [hU, List.length_take]; exact Nat.min_le_right _ _
      have lD : D.length ≤ (listL s fr false 64).length := by rw [hD, List.length_take]; exact Nat.min_le_right _ _
      have r1 : (decide ((0 : Int) ≤ 0) && (decide (0 ≤ (U.length : Int)) && (decide ((U.length : Int) ≤ ((listL s fr true 64).length : Int)) && decide (((listL s fr true 64).length : Int) ≤ ((listL s fr true 64).length : Int))))) = true := by simp only [Bool.and_eq_true, decide_eq_true_eq]; omega
      have r2 : (decide ((0 : Int) ≤ 0) && (decide (0 ≤ (D.length : Int)) && (decide ((D.length : Int) ≤ ((listL s fr false 64).length : Int)) && decide (((listL s fr false 64).length : Int) ≤ ((listL s fr false 64).length : Int))))) = true := by simp only [Bool.and_eq_true, decide_eq_true_eq]; omega
      have len6 : U.length ≤ 64 ∧ D.length ≤ 64 := by rw [hU, hD, List.length_take, List.length_take]; omega
      have R1 : RowIs eI U.length (fun k => eI.enc (U.getD (0 + k) eI.dflt)) U := RowIs.all eI (RowIs.row eI U)
      have R2 : RowIs eI D.length (fun k => eI.enc (D.getD (0 + k) eI.dflt)) D := RowIs.all eI (RowIs.row eI D)
      have P1 : RowIs eI U.length (fun k => eI.enc ((listL s fr true 64).getD (0 + k) eI.dflt)) U := by
        have := RowIs.part eI (o := 0) (m := U.length) (RowIs.row eI (listL s fr true 64)) (by omega)
        rwa [show ((listL s fr true 64).drop 0).take U.length = U by rw [List.drop_zero]; show (upL s fr 64).take U.length = U; rw [hU, List.length_take]; rw [← List.take_eq_take_min]] at this
      have P2 : RowIs eI D.length (fun k => eI.enc ((listL s fr false 64).getD (0 + k) eI.dflt)) D := by
        have := RowIs.part eI (o := 0) (m := D.length) (RowIs.row eI (listL s fr false 64)) (by omega)
        rwa [show ((listL s fr false 64).drop 0).take D.length = D by rw [List.drop_zero]; show (dnL s fr 64).take D.length = D; rw [hD, List.length_take]; rw [← List.take_eq_take_min]] at this
      cases ok0 with
      | true =>
        have h0 := hn1 rfl
        have p1 : decide (0 ≤ f0) = true := decide_eq_true h0
        have p2 : (!(decide (f0 = f0))) = false := by simp
        have p3 : (!(true == decide (0 ≤ f0))) = false := by rw [p1]; rfl
        (conv => arg 1; whnf); (repeat' (first | (refine brt (by assumption) ?_; (conv => arg 1; whnf)) | (refine brf (by assumption) ?_; (conv => arg 1; whnf)) | fail))
        rw [mU]
        (conv => arg 1; whnf); (repeat' (first | (refine brt (by assumption) ?_; (conv => arg 1; whnf)) | (refine brf (by assumption) ?_; (conv => arg 1; whnf)) | fail))
        (refine brt ?_ ?_; (focus (exact and2 (bor2 rfl (by omega) rfl (by omega)) (and2 (and2 (decide_eq_true (by rw [rows_len]; omega)) (rowT P1 (by omega))) (rowT R1 (by omega))); done)); (conv => arg 1; whnf))
        have A1 : decide ((rows eI U.length fun k => eI.enc (U.getD (0 + k) eI.dflt)) = rows eI ((U.length : Int).toNat - Int.toNat 0) fun k => eI.enc ((listL s fr true 64).getD (0 + Int.toNat 0 + k) eI.dflt)) = true := decide_eq_true ((RowIs.rows eI R1).trans (RowIs.rows eI P1).symm)
        (conv => arg 1; whnf); (repeat' (first | (refine brt (by assumption) ?_; (conv => arg 1; whnf)) | (refine brf (by assumption) ?_; (conv => arg 1; whnf)) | fail))
        rw [mD]
        (conv => arg 1; whnf); (repeat' (first | (refine brt (by assumption) ?_; (conv => arg 1; whnf)) | (refine brf (by assumption) ?_; (conv => arg 1; whnf)) | fail))
        (refine brt ?_ ?_; (focus (exact and2 (bor2 rfl (by omega) rfl (by omega)) (and2 (and2 (decide_eq_true (by rw [rows_len]; omega)) (rowT P2 (by omega))) (rowT R2 (by omega))); done)); (conv => arg 1; whnf))
        have A2 : decide ((rows eI D.length fun k => eI.enc (D.getD (0 + k) eI.dflt)) = rows eI ((D.length : Int).toNat - Int.toNat 0) fun k => eI.enc ((listL s fr false 64).getD (0 + Int.toNat 0 + k) eI.dflt)) = true := decide_eq_true ((RowIs.rows eI R2).trans (RowIs.rows eI P2).symm)
        (conv => arg 1; whnf); (repeat' (first | (refine brt (by assumption) ?_; (conv => arg 1; whnf)) | (refine brf (by assumption) ?_; (conv => arg 1; whnf)) | fail))
        first | exact finB A2.symm | (trace_state; sorry)
      | false =>
        have h0 := hn2 rfl
        subst h0
        (conv => arg 1; whnf); (repeat' (first | (refine brt (by assumption) ?_; (conv => arg 1; whnf)) | (refine brf (by assumption) ?_; (conv => arg 1; whnf)) | fail))
        rw [mU]
        (conv => arg 1; whnf); (repeat' (first | (refine brt (by assumption) ?_; (conv => arg 1; whnf)) | (refine brf (by assumption) ?_; (conv => arg 1; whnf)) | fail))
        (refine brt ?_ ?_; (focus (exact and2 (bor2 rfl (by omega) rfl (by omega)) (and2 (and2 (decide_eq_true (by rw [rows_len]; omega)) (rowT P1 (by omega))) (rowT R1 (by omega))); done)); (conv => arg 1; whnf))
        have A1 : decide ((rows eI U.length fun k => eI.enc (U.getD (0 + k) eI.dflt)) = rows eI ((U.length : Int).toNat - Int.toNat 0) fun k => eI.enc ((listL s fr true 64).getD (0 + Int.toNat 0 + k) eI.dflt)) = true := decide_eq_true ((RowIs.rows eI R1).trans (RowIs.rows eI P1).symm)
        (conv => arg 1; whnf); (repeat' (first | (refine brt (by assumption) ?_; (conv => arg 1; whnf)) | (refine brf (by assumption) ?_; (conv => arg 1; whnf)) | fail))
        rw [mD]
        (conv => arg 1; whnf); (repeat' (first | (refine brt (by assumption) ?_; (conv => arg 1; whnf)) | (refine brf (by assumption) ?_; (conv => arg 1; whnf)) | fail))
        (refine brt ?_ ?_; (focus (exact and2 (bor2 rfl (by omega) rfl (by omega)) (and2 (and2 (decide_eq_true (by rw [rows_len]; omega)) (rowT P2 (by omega))) (rowT R2 (by omega))); done)); (conv => arg 1; whnf))
        have A2 : decide ((rows eI D.length fun k => eI.enc (D.getD (0 + k) eI.dflt)) = rows eI ((D.length : Int).toNat - Int.toNat 0) fun k => eI.enc ((listL s fr false 64).getD (0 + Int.toNat 0 + k) eI.dflt)) = true := decide_eq_true ((RowIs.rows eI R2).trans (RowIs.rows eI P2).symm)
        (conv => arg 1; whnf); (repeat' (first | (refine brt (by assumption) ?_; (conv => arg 1; whnf)) | (refine brf (by assumption) ?_; (conv => arg 1; whnf)) | fail))
        first | exact finB A2.symm | (trace_state; sorry)
end Go.Proofs.YtaneamfnjhiigaaDoor.E
