/- The document's answers on sets of floors, on: lists. -/
import Derived.Test.YtaneamfnjhiigaaDoorFloorsHE
namespace Go.Proofs.YtaneamfnjhiigaaDoor.E
open Go
set_option linter.unusedSimpArgs false
set_option linter.unusedVariables false
set_option maxRecDepth 100000
set_option maxHeartbeats 4000000
def XFl : Cx := XF0.add 24 .pure (pureCtr allG)
theorem XFl_ok : CxOk Tryd.prog XFl := XF0_ok.pure rall_ok
def listL (s fr : Int) (up : Bool) (k : Nat) : List Int := match up with | true => upL s fr k | false => dnL s fr k
def listG : List AV → Option (Bool × AV × St) := ad3 adU adI adB fun s fr up => some (decide (0 ≤ s) && decide (s < 18446744073709551616), .s 0 1 0 (listL s fr up 64).length, [tabl eI (listL s fr up 64)])
theorem plainTab {l : List Int} : PlainS [tabl eI l] := fun B h => by
  obtain rfl := List.mem_singleton.1 h
  exact .inl ⟨_, _, _, rfl, fun k _ u hu => ⟨_, List.mem_singleton.1 hu⟩⟩
theorem upL_succ (s fr : Int) (k : Nat) : upL s fr (k + 1) = if bt s k && decide (fr ≤ (k : Int)) then upL s fr k ++ [(k : Int)] else upL s fr k := by
  unfold upL
  rw [List.range_succ, List.filter_append, List.map_append, List.filter_cons]
  split
  · simp
  · simp
theorem dnL_succ (s fr : Int) (k : Nat) : dnL s fr (k + 1) = if bt s (63 - k) && decide (((63 - k : Nat) : Int) ≤ fr) then dnL s fr k ++ [((63 - k : Nat) : Int)] else dnL s fr k := by
  unfold dnL
  rw [List.range_succ, List.filter_append, List.map_append, List.filter_cons]
  split
  · simp
  · simp
theorem fit_s {ρ : List Nat} {σ : St} {l m sz o n o' n' : Nat} (h : ρ[l]? = some m) (ho : o = o') (hn : n = n') : Fit ρ σ (.s l sz o n) (.s m sz o' n') := by subst ho hn; exact .s h
theorem rlist_ok : CtrOk Tryd.prog 9 (freshCtr listG) :=
  freshCtr_ok XFl_ok Tryd.func9 (by decide) rfl fun args u σn h => by
    obtain ⟨s, fr, up, hf, _, _, _, hv⟩ := ad3_some h
    simp only [Option.some.injEq, Prod.mk.injEq] at hv
    obtain ⟨hs, rfl, rfl⟩ := hv
    refine ⟨plainTab, _, hf, ?_⟩
    clear h hf
    unfold runF
    (conv => arg 1; whnf); (repeat' (first | (refine brt (by assumption) ?_; (conv => arg 1; whnf)) | (refine brf (by assumption) ?_; (conv => arg 1; whnf)) | fail))
    cases up with
    | true =>
      refine loopM [1, 2, 7, 8, 9] (fun k : Nat => k ≤ 64) (fun k => [(8, .s 1 1 0 (upL s fr k).length), (9, i64 k)]) (fun k => [(0, arrT (bt s)), (1, tabl eI (upL s fr k))]) (fun k => 64 - k) 0 (Nat.zero_le _) rfl ?_ ?_ fun k hk => ?_
      · repeat' (first | exact True.intro | exact Fit.dead _ | exact Fit.v _ | exact .i fun _ _ => rfl | exact Fit.ip | exact .p rfl | exact .q rfl | exact .s rfl | exact .y rfl | exact Fit.z | exact ⟨_, rfl, .gone _⟩ | exact ⟨_, rfl, .lrec _⟩ | exact ⟨_, rfl, .held⟩ | exact ⟨_, rfl, .tab fun _ _ => rfl⟩ | refine Fit.al ?_ | refine Fit.fl ?_ ?_ | refine ⟨_, rfl, .lit ?_⟩ | refine And.intro ?_ ?_)
      · exact ⟨⟨_, rfl, .tab fun i hi => (cut_arr hi).symm⟩, ⟨_, rfl, .tab fun i hi => absurd hi (Nat.not_lt_zero i)⟩, trivial⟩
      · have hk : k ≤ 64 := hk
        have hlen : (upL s fr k).length ≤ 64 := by
          unfold upL
          rw [List.length_map]
          exact Nat.le_trans (List.length_filter_le _ _) (by rw [List.length_range]; exact hk)
        (conv => arg 1; whnf)
        refine br (fun h => ?_) (fun h => ?_)
        · have hlt : k < 64 := by have := of_decide_eq_true h; omega
          have e1 : (decide (0 ≤ (k : Int)) && decide ((k : Int) < ((64 : Nat) : Int))) = true := by simp only [Bool.and_eq_true, decide_eq_true_eq]; omega
          have e2 : decide ((k : Int).toNat < 64) = true := decide_eq_true (by omega)
          have e3 : (decide (0 ≤ IntKind.i64.wrap (63 - (k : Int))) && decide (IntKind.i64.wrap (63 - (k : Int)) < ((64 : Nat) : Int))) = true := by rw [wrap_i64' _ (by omega) (by omega)]; simp only [Bool.and_eq_true, decide_eq_true_eq]; omega
          have e4 : decide ((IntKind.i64.wrap (63 - (k : Int))).toNat < 64) = true := by rw [wrap_i64' _ (by omega) (by omega)]; exact decide_eq_true (by omega)
          obtain ⟨b1, hb1⟩ : ∃ b, bt s (k : Int).toNat = b := ⟨_, rfl⟩
          obtain ⟨b3, hb3⟩ : ∃ b, bt s (IntKind.i64.wrap (63 - (k : Int))).toNat = b := ⟨_, rfl⟩
          obtain ⟨b2, hb2⟩ : ∃ b, decide (fr ≤ (k : Int)) = b := ⟨_, rfl⟩
          have e5 : ((0 + (upL s fr k).length).ble (upL s fr k).length && ((0 + 1).ble 1 && ((upL s fr k).length + 1).ble 4294967295)) = true := and2 (Nat.ble_eq_true_of_le (by omega)) (and2 rfl (Nat.ble_eq_true_of_le (by omega)))
          have ek : (k : Int).toNat = k := by omega
          have ew : IntKind.i64.wrap (63 - (k : Int)) = ((63 - k : Nat) : Int) := by rw [wrap_i64' _ (by omega) (by omega)]; omega
          have hL := upL_succ s fr k
          have g1 : bt s k = b1 := by rw [ek] at hb1; exact hb1
          have g2 : decide (fr ≤ (k : Int)) = b2 := by exact hb2
          rw [g1, g2] at hL
          cases b1 <;> cases b3 <;> cases b2 <;> ((conv => arg 1; whnf); (repeat' (first | (refine brt (by assumption) ?_; (conv => arg 1; whnf)) | (refine brf (by assumption) ?_; (conv => arg 1; whnf)) | fail))) <;> first
            | (refine again (k + 1) [0, 1] hlt (by show 64 - (k + 1) < 64 - k; omega) (by decide) ?_ ?_ rfl
               · rw [show upL s fr (k + 1) = upL s fr k from hL]
                 repeat' (first | exact True.intro | exact Fit.dead _ | exact Fit.v _ | exact .p rfl | exact .s rfl | exact Fit.v' (congrArg (Value.int .i64) (nxt k (by omega)).symm) | refine And.intro ?_ ?_)
               · rw [show upL s fr (k + 1) = upL s fr k from hL]
                 exact ⟨⟨_, rfl, .tab fun _ _ => rfl⟩, ⟨_, rfl, .tab fun _ _ => rfl⟩, trivial⟩)
            | (refine again (k + 1) [0, 3] hlt (by show 64 - (k + 1) < 64 - k; omega) (by decide) ?_ ?_ rfl
               · rw [show upL s fr (k + 1) = upL s fr k ++ [(k : Int)] from hL]
                 repeat' (first | exact True.intro | exact Fit.dead _ | exact Fit.v _ | exact .p rfl | exact fit_s rfl rfl List.length_append | exact Fit.v' (congrArg (Value.int .i64) (nxt k (by omega)).symm) | refine And.intro ?_ ?_)
               · rw [show upL s fr (k + 1) = upL s fr k ++ [(k : Int)] from hL]
                 exact ⟨⟨_, rfl, .tab fun _ _ => rfl⟩, ⟨_, rfl, fit_tab (e := eI) (RowIs.snoc eI (RowIs.all eI (RowIs.row eI _)) (congrArg (fun z => [i64 z]) rfl))⟩, trivial⟩)
        · have hkl : k = 64 := by have := of_decide_eq_false h; omega
          subst hkl
          (conv => arg 1; whnf); (repeat' (first | (refine brt (by assumption) ?_; (conv => arg 1; whnf)) | (refine brf (by assumption) ?_; (conv => arg 1; whnf)) | fail))
          refine leave ?_
          show tr _
          (conv => arg 1; whnf); (repeat' (first | (refine brt (by assumption) ?_; (conv => arg 1; whnf)) | (refine brf (by assumption) ?_; (conv => arg 1; whnf)) | fail))
          exact finS [1] (by decide) (.s rfl) ⟨⟨_, rfl, .tab fun _ _ => rfl⟩, trivial⟩ rfl
    | false =>
      refine loopM [1, 2, 7, 8, 9] (fun k : Nat => k ≤ 64) (fun k => [(8, .s 1 1 0 (dnL s fr k).length), (9, i64 k)]) (fun k => [(0, arrT (bt s)), (1, tabl eI (dnL s fr k))]) (fun k => 64 - k) 0 (Nat.zero_le _) rfl ?_ ?_ fun k hk => ?_
      · repeat' (first | exact True.intro | exact Fit.dead _ | exact Fit.v _ | exact .i fun _ _ => rfl | exact Fit.ip | exact .p rfl | exact .q rfl | exact .s rfl | exact .y rfl | exact Fit.z | exact ⟨_, rfl, .gone _⟩ | exact ⟨_, rfl, .lrec _⟩ | exact ⟨_, rfl, .held⟩ | exact ⟨_, rfl, .tab fun _ _ => rfl⟩ | refine Fit.al ?_ | refine Fit.fl ?_ ?_ | refine ⟨_, rfl, .lit ?_⟩ | refine And.intro ?_ ?_)
      · exact ⟨⟨_, rfl, .tab fun i hi => (cut_arr hi).symm⟩, ⟨_, rfl, .tab fun i hi => absurd hi (Nat.not_lt_zero i)⟩, trivial⟩
      · have hk : k ≤ 64 := hk
        have hlen : (dnL s fr k).length ≤ 64 := by
          unfold dnL
          rw [List.length_map]
          exact Nat.le_trans (List.length_filter_le _ _) (by rw [List.length_range]; exact hk)
        (conv => arg 1; whnf)
        refine br (fun h => ?_) (fun h => ?_)
        · have hlt : k < 64 := by have := of_decide_eq_true h; omega
          have e1 : (decide (0 ≤ (k : Int)) && decide ((k : Int) < ((64 : Nat) : Int))) = true := by simp only [Bool.and_eq_true, decide_eq_true_eq]; omega
          have e2 : decide ((k : Int).toNat < 64) = true := decide_eq_true (by omega)
          have e3 : (decide (0 ≤ IntKind.i64.wrap (63 - (k : Int))) && decide (IntKind.i64.wrap (63 - (k : Int)) < ((64 : Nat) : Int))) = true := by rw [wrap_i64' _ (by omega) (by omega)]; simp only [Bool.and_eq_true, decide_eq_true_eq]; omega
          have e4 : decide ((IntKind.i64.wrap (63 - (k : Int))).toNat < 64) = true := by rw [wrap_i64' _ (by omega) (by omega)]; exact decide_eq_true (by omega)
          obtain ⟨b1, hb1⟩ : ∃ b, bt s (k : Int).toNat = b := ⟨_, rfl⟩
          obtain ⟨b3, hb3⟩ : ∃ b, bt s (IntKind.i64.wrap (63 - (k : Int))).toNat = b := ⟨_, rfl⟩
          obtain ⟨b2, hb2⟩ : ∃ b, decide (IntKind.i64.wrap (63 - (k : Int)) ≤ fr) = b := ⟨_, rfl⟩
          have e5 : ((0 + (dnL s fr k).length).ble (dnL s fr k).length && ((0 + 1).ble 1 && ((dnL s fr k).length + 1).ble 4294967295)) = true := and2 (Nat.ble_eq_true_of_le (by omega)) (and2 rfl (Nat.ble_eq_true_of_le (by omega)))
          have ek : (k : Int).toNat = k := by omega
          have ew : IntKind.i64.wrap (63 - (k : Int)) = ((63 - k : Nat) : Int) := by rw [wrap_i64' _ (by omega) (by omega)]; omega
          have hL := dnL_succ s fr k
          have g1 : bt s (63 - k) = b3 := by rw [ew, Int.toNat_natCast] at hb3; exact hb3
          have g2 : decide (((63 - k : Nat) : Int) ≤ fr) = b2 := by rw [ew] at hb2; exact hb2
          rw [g1, g2] at hL
          cases b1 <;> cases b3 <;> cases b2 <;> ((conv => arg 1; whnf); (repeat' (first | (refine brt (by assumption) ?_; (conv => arg 1; whnf)) | (refine brf (by assumption) ?_; (conv => arg 1; whnf)) | fail))) <;> first
            | (refine again (k + 1) [0, 1] hlt (by show 64 - (k + 1) < 64 - k; omega) (by decide) ?_ ?_ rfl
               · rw [show dnL s fr (k + 1) = dnL s fr k from hL]
                 repeat' (first | exact True.intro | exact Fit.dead _ | exact Fit.v _ | exact .p rfl | exact .s rfl | exact Fit.v' (congrArg (Value.int .i64) (nxt k (by omega)).symm) | refine And.intro ?_ ?_)
               · rw [show dnL s fr (k + 1) = dnL s fr k from hL]
                 exact ⟨⟨_, rfl, .tab fun _ _ => rfl⟩, ⟨_, rfl, .tab fun _ _ => rfl⟩, trivial⟩)
            | (refine again (k + 1) [0, 3] hlt (by show 64 - (k + 1) < 64 - k; omega) (by decide) ?_ ?_ rfl
               · rw [show dnL s fr (k + 1) = dnL s fr k ++ [((63 - k : Nat) : Int)] from hL]
                 repeat' (first | exact True.intro | exact Fit.dead _ | exact Fit.v _ | exact .p rfl | exact fit_s rfl rfl List.length_append | exact Fit.v' (congrArg (Value.int .i64) (nxt k (by omega)).symm) | refine And.intro ?_ ?_)
               · rw [show dnL s fr (k + 1) = dnL s fr k ++ [((63 - k : Nat) : Int)] from hL]
                 exact ⟨⟨_, rfl, .tab fun _ _ => rfl⟩, ⟨_, rfl, fit_tab (e := eI) (RowIs.snoc eI (RowIs.all eI (RowIs.row eI _)) (congrArg (fun z => [i64 z]) ew))⟩, trivial⟩)
        · have hkl : k = 64 := by have := of_decide_eq_false h; omega
          subst hkl
          (conv => arg 1; whnf); (repeat' (first | (refine brt (by assumption) ?_; (conv => arg 1; whnf)) | (refine brf (by assumption) ?_; (conv => arg 1; whnf)) | fail))
          refine leave ?_
          show tr _
          (conv => arg 1; whnf); (repeat' (first | (refine brt (by assumption) ?_; (conv => arg 1; whnf)) | (refine brf (by assumption) ?_; (conv => arg 1; whnf)) | fail))
          exact finS [1] (by decide) (.s rfl) ⟨⟨_, rfl, .tab fun _ _ => rfl⟩, trivial⟩ rfl
end Go.Proofs.YtaneamfnjhiigaaDoor.E
