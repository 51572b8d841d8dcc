/- The contracts of the document's book of calls, second part. -/
import Derived.Test.YtbilkjolopdeiaaCallsRefE
namespace Go.Proofs.Ytbilkjolopdeiaa.E
open Go NumMath
set_option linter.unusedSimpArgs false
set_option linter.unusedVariables false
set_option maxRecDepth 100000
set_option maxHeartbeats 4000000
/-! ### A tick -/
def rtickC (c : Call) : Call := cond (decide (c.ag < 1099511627776)) { c with ag := IntKind.i64.wrap (c.ag + 1) } c
def rtickG : List AV → St → Option (Bool × AV × St)
  | [.p 0 0], σ => onRBook (fun s l bl => some (true, .t [], fun _ _ => [.lit (rbookC s 2 l.length bl), .gone, tabl eC (l.map rtickC)])) σ
  | _, _ => none
theorem map_take {f : Call → Call} (l : List Call) (k : Nat) (h : k < l.length) : (l.take (k + 1)).map f = (l.take k).map f ++ [f (l.getD k eC.dflt)] := by
  rw [List.take_succ_eq_append_getElem h, List.map_append]
  simp [List.getD_eq_getElem?_getD, h]
theorem rtick_ok : CtrOk Try.prog 32 (localCtr rtickG) :=
  localCtr_can X0_ok Try.func32 (by decide) rfl fun args σ u σ' h => by
    unfold rtickG at h
    split at h
    case h_2 => cases h
    obtain ⟨s, l, bl, g, τ, rfl, hr, hl, hbl, hF, rfl⟩ := onRBook_some h
    simp only [Option.some.injEq, Prod.mk.injEq] at hF
    obtain ⟨_, rfl, rfl⟩ := hF
    clear h
    refine ⟨_, sameRBook hr, ?_⟩
    unfold runF
    (conv => arg 1; whnf)
    refine loopIn (fun k : Nat => k ≤ l.length) (fun k => frm 37 [(0, .p 0 0), (2, .s 2 4 0 ((l.take k).map rtickC).length), (3, i64 k)]) (fun k => [.lit (rbookC s 1 l.length bl), tabl eC l, tabl eC ((l.take k).map rtickC)]) (fun k => l.length - k) 0 [0, 1, 2] (Nat.zero_le _) (by decide) ?_ ?_ rfl fun k hk => ?_
    · repeat' (first | exact True.intro | exact Fit.dead _ | exact .p rfl | exact .s rfl | exact Fit.v _ | refine And.intro ?_ ?_)
    · exact ⟨⟨_, rfl, .lit (fitRBook rfl rfl)⟩, ⟨_, rfl, .tab fun _ _ => rfl⟩, ⟨_, rfl, .tab fun k hk => absurd hk (Nat.not_lt_zero k)⟩, trivial⟩
    · have hk : k ≤ l.length := hk
      have hml : ((l.take k).map rtickC).length = k := by rw [List.length_map, List.length_take]; omega
      (conv => arg 1; whnf)
      refine br (fun h => ?_) (fun h => ?_)
      · have hlt : k < l.length := by have := of_decide_eq_true h; omega
        have e1 : decide (0 + (k : Int).toNat < l.length) = true := decide_eq_true (by omega)
        have e2 : (decide (0 ≤ (k : Int)) && decide ((k : Int) < (l.length : Int))) = true := by simp only [Bool.and_eq_true, decide_eq_true_eq]; omega
        have ek : 0 + (k : Int).toNat = k := by omega
        have c2 : ((0 + ((l.take k).map rtickC).length).ble ((l.take k).map rtickC).length && ((0 + 1).ble 1 && (((l.take k).map rtickC).length + 1).ble 4294967295)) = true := by simp [Nat.ble_eq]; omega
        have f1 := map_take (f := rtickC) l k hlt
        (conv => arg 1; whnf); (repeat' (first | (refine brt (by assumption) ?_; (conv => arg 1; whnf)) | (refine brf (by assumption) ?_; (conv => arg 1; whnf)) | fail))
        refine br (fun h1 => ?_) (fun h1 => ?_)
        · have h1 : decide ((l.getD (0 + (k : Int).toNat) eC.dflt).ag < 1099511627776) = true := h1
          rw [ek] at h1
          have e : rtickC (l.getD k eC.dflt) = { l.getD k eC.dflt with ag := IntKind.i64.wrap ((l.getD k eC.dflt).ag + 1) } := by unfold rtickC; rw [h1]; rfl
          (conv => arg 1; whnf); (repeat' (first | (refine brt (by assumption) ?_; (conv => arg 1; whnf)) | (refine brf (by assumption) ?_; (conv => arg 1; whnf)) | fail))
          refine again (k + 1) [0, 1, 5] hlt (by show l.length - (k + 1) < l.length - k; omega) (by decide) ?_ ?_ rfl
          · simp only [f1]
            repeat' (first | exact True.intro | exact Fit.dead _ | exact .p rfl | exact .s rfl | exact Fit.v _ | exact fit_s rfl rfl List.length_append | exact Fit.v' (congrArg (Value.int .i64) (nxt k (by omega)).symm) | refine And.intro ?_ ?_)
          · simp only [f1]
            refine ⟨⟨_, rfl, .lit (fitRBook rfl rfl)⟩, ⟨_, rfl, .tab fun _ _ => rfl⟩, ⟨_, rfl, ?_⟩, trivial⟩
            exact fit_tab (e := eC) (RowIs.joined eC (RowIs.all eC (RowIs.row eC _)) (l2 := [rtickC (l.getD k eC.dflt)]) ⟨rfl, fun j hj => by
              match j, hj with
              | 0, _ => exact (congrArg (fun i => eC.enc { l.getD i eC.dflt with ag := IntKind.i64.wrap ((l.getD i eC.dflt).ag + 1) }) ek).trans (congrArg eC.enc e.symm)⟩)
        · have h1 : decide ((l.getD (0 + (k : Int).toNat) eC.dflt).ag < 1099511627776) = false := h1
          rw [ek] at h1
          have e : rtickC (l.getD k eC.dflt) = l.getD k eC.dflt := by unfold rtickC; rw [h1]; rfl
          (conv => arg 1; whnf); (repeat' (first | (refine brt (by assumption) ?_; (conv => arg 1; whnf)) | (refine brf (by assumption) ?_; (conv => arg 1; whnf)) | fail))
          refine again (k + 1) [0, 1, 5] hlt (by show l.length - (k + 1) < l.length - k; omega) (by decide) ?_ ?_ rfl
          · simp only [f1]
            repeat' (first | exact True.intro | exact Fit.dead _ | exact .p rfl | exact .s rfl | exact Fit.v _ | exact fit_s rfl rfl List.length_append | exact Fit.v' (congrArg (Value.int .i64) (nxt k (by omega)).symm) | refine And.intro ?_ ?_)
          · simp only [f1]
            refine ⟨⟨_, rfl, .lit (fitRBook rfl rfl)⟩, ⟨_, rfl, .tab fun _ _ => rfl⟩, ⟨_, rfl, ?_⟩, trivial⟩
            exact fit_tab (e := eC) (RowIs.joined eC (RowIs.all eC (RowIs.row eC _)) (l2 := [rtickC (l.getD k eC.dflt)]) ⟨rfl, fun j hj => by
              match j, hj with
              | 0, _ => exact (congrArg (fun i => eC.enc (l.getD i eC.dflt)) ek).trans (congrArg eC.enc e.symm)⟩)
      · (conv => arg 1; whnf); (repeat' (first | (refine brt (by assumption) ?_; (conv => arg 1; whnf)) | (refine brf (by assumption) ?_; (conv => arg 1; whnf)) | fail))
        refine leave ?_
        show tr _
        have hkl : k = l.length := by have := of_decide_eq_false h; omega
        subst hkl
        rw [List.take_length] at *
        (conv => arg 1; whnf); (repeat' (first | (refine brt (by assumption) ?_; (conv => arg 1; whnf)) | (refine brf (by assumption) ?_; (conv => arg 1; whnf)) | fail))
        exact finS [0, 1, 2] (by decide) (.tl trivial) ⟨⟨_, rfl, .lit (fitRBook rfl (by rw [List.length_map]))⟩, ⟨_, rfl, .gone _⟩, ⟨_, rfl, .tab fun _ _ => rfl⟩, trivial⟩ rfl
/-! ### A visit -/
def rservB (car fl : Int) (up down : Bool) (c : Call) : Bool := cond (decide (c.fl = fl) && decide (c.ca < 0)) ((c.up && up) || (!c.up && down)) (decide (c.fl = fl) && (decide (c.ca = car) && decide (0 ≤ car)))
def rserveG : List AV → St → Option (Bool × AV × St)
  | [.p 0 0, .v (.int .i64 car), .v (.int .i64 fl), .v (.bool up), .v (.bool down)], σ => onRBook (fun s l bl => some (true, .s 3 4 0 (l.filter (rservB car fl up down)).length, fun _ _ => [.lit (rbookC s 2 (l.filter fun c => !rservB car fl up down c).length bl), .gone, tabl eC (l.filter fun c => !rservB car fl up down c), tabl eC (l.filter (rservB car fl up down))])) σ
  | _, _ => none
def XRS : Cx := (X0.join 200007).join 200008
theorem XRS_ok : CxOk Try.prog XRS := (X0_ok.join 200007 rfl).join 200008 rfl
theorem rserve_ok : CtrOk Try.prog 34 (localCtr rserveG) :=
  localCtr_can XRS_ok Try.func34 (by decide) rfl fun args σ u σ' h => by
    unfold rserveG at h
    split at h
    case h_2 => cases h
    rename_i car fl up down
    obtain ⟨s, l, bl, g, τ, rfl, hr, hl, hbl, hF, rfl⟩ := onRBook_some h
    simp only [Option.some.injEq, Prod.mk.injEq, true_and] at hF
    obtain ⟨rfl, rfl⟩ := hF
    clear h
    refine ⟨_, sameRBook hr, ?_⟩
    obtain ⟨p, hp⟩ : ∃ p, p = rservB car fl up down := ⟨_, rfl⟩
    rw [← hp]
    obtain ⟨q, hq⟩ : ∃ q : Call → Bool, q = fun c => !p c := ⟨_, rfl⟩
    rw [← hq]
    unfold runF
    (conv => arg 1; whnf)
    refine loopIn (fun k : Nat => k ≤ l.length) (fun k => frm 84 [(0, .p 0 0), (1, i64 car), (2, i64 fl), (3, boo up), (4, boo down), (11, .s 3 4 0 ((l.take k).filter p).length), (12, .s 2 4 0 ((l.take k).filter q).length), (13, i64 k)]) (fun k => [.lit (rbookC s 1 l.length bl), tabl eC l, tabl eC ((l.take k).filter q), tabl eC ((l.take k).filter p)]) (fun k => l.length - k) 0 [0, 1, 3, 2] (Nat.zero_le _) (by decide) ?_ ?_ rfl fun k hk => ?_
    · repeat' (first | exact True.intro | exact Fit.dead _ | exact .p rfl | exact .s rfl | exact Fit.v _ | refine And.intro ?_ ?_)
    · exact ⟨⟨_, rfl, .lit (fitRBook rfl rfl)⟩, ⟨_, rfl, .tab fun _ _ => rfl⟩, ⟨_, rfl, .tab fun k hk => absurd hk (Nat.not_lt_zero k)⟩, ⟨_, rfl, .tab fun k hk => absurd hk (Nat.not_lt_zero k)⟩, trivial⟩
    · have hk : k ≤ l.length := hk
      have hpl := filt_le p l k
      have hql := filt_le q l k
      (conv => arg 1; whnf)
      refine br (fun h => ?_) (fun h => ?_)
      · have hlt : k < l.length := by have := of_decide_eq_true h; omega
        have e1 : decide (0 + (k : Int).toNat < l.length) = true := decide_eq_true (by omega)
        have e2 : (decide (0 ≤ (k : Int)) && decide ((k : Int) < (l.length : Int))) = true := by simp only [Bool.and_eq_true, decide_eq_true_eq]; omega
        have ek : 0 + (k : Int).toNat = k := by omega
        have f1 := filter_take p l k hlt
        have f2 := filter_take q l k hlt
        obtain ⟨c, hc⟩ : ∃ c, c = l.getD k eC.dflt := ⟨_, rfl⟩
        have hc' : l.getD (0 + (k : Int).toNat) eC.dflt = c := by rw [ek, hc]
        have hx : rservB car fl up down c = cond (decide (c.fl = fl) && decide (c.ca < 0)) ((c.up && up) || (!c.up && down)) (decide (c.fl = fl) && (decide (c.ca = car) && decide (0 ≤ car))) := rfl
        (conv => arg 1; whnf); (repeat' (first | (refine brt (by assumption) ?_; (conv => arg 1; whnf)) | (refine brf (by assumption) ?_; (conv => arg 1; whnf)) | fail))
        refine joinIn (fun _ : Unit => True) (fun _ => frm 84 [(0, .p 0 0), (1, i64 car), (2, i64 fl), (3, boo up), (4, boo down), (11, .s 3 4 0 ((l.take k).filter p).length), (12, .s 2 4 0 ((l.take k).filter q).length), (13, i64 k), (14, .p 4 0), (15, boo (decide (c.fl = fl) && (decide (c.ca = car) && decide (0 ≤ car))))]) (fun _ => [.lit (rbookC s 1 l.length bl), tabl eC l, tabl eC ((l.take k).filter q), tabl eC ((l.take k).filter p), .lit c.cs]) ?_ (fun _ _ => ?_)
        · cases h1 : decide ((l.getD (0 + (k : Int).toNat) eC.dflt).fl = fl) with
          | false =>
            have h1' := h1
            rw [hc'] at h1'
            (conv => arg 1; whnf); (repeat' (first | (refine brt (by assumption) ?_; (conv => arg 1; whnf)) | (refine brf (by assumption) ?_; (conv => arg 1; whnf)) | fail))
            refine joinTo () [0, 1, 2, 3, 4] trivial (by decide) ?_ ?_ rfl
            · repeat' (first | exact True.intro | exact Fit.dead _ | exact .p rfl | exact .s rfl | exact Fit.v _ | exact Fit.v' (congrArg Value.bool (by rw [h1']; rfl)) | refine And.intro ?_ ?_)
            · exact ⟨⟨_, rfl, .lit (fitRBook rfl rfl)⟩, ⟨_, rfl, .tab fun _ _ => rfl⟩, ⟨_, rfl, .tab fun _ _ => rfl⟩, ⟨_, rfl, .tab fun _ _ => rfl⟩, ⟨_, rfl, .lit (by rw [hc']; repeat' (first | exact True.intro | exact Fit.dead _ | exact Fit.v _ | exact .i fun _ _ => rfl | exact Fit.ip | exact .p rfl | exact .q rfl | exact .s rfl | exact .y rfl | refine Fit.al ?_ | refine Fit.fl ?_ ?_ | refine And.intro ?_ ?_))⟩, trivial⟩
          | true =>
            cases h3 : decide ((l.getD (0 + (k : Int).toNat) eC.dflt).ca = car) with
            | false =>
              have h1' := h1
              have h3' := h3
              rw [hc'] at h1' h3'
              (conv => arg 1; whnf); (repeat' (first | (refine brt (by assumption) ?_; (conv => arg 1; whnf)) | (refine brf (by assumption) ?_; (conv => arg 1; whnf)) | fail))
              refine joinTo () [0, 1, 2, 3, 4] trivial (by decide) ?_ ?_ rfl
              · repeat' (first | exact True.intro | exact Fit.dead _ | exact .p rfl | exact .s rfl | exact Fit.v _ | exact Fit.v' (congrArg Value.bool (by rw [h1', h3']; rfl)) | refine And.intro ?_ ?_)
              · exact ⟨⟨_, rfl, .lit (fitRBook rfl rfl)⟩, ⟨_, rfl, .tab fun _ _ => rfl⟩, ⟨_, rfl, .tab fun _ _ => rfl⟩, ⟨_, rfl, .tab fun _ _ => rfl⟩, ⟨_, rfl, .lit (by rw [hc']; repeat' (first | exact True.intro | exact Fit.dead _ | exact Fit.v _ | exact .i fun _ _ => rfl | exact Fit.ip | exact .p rfl | exact .q rfl | exact .s rfl | exact .y rfl | refine Fit.al ?_ | refine Fit.fl ?_ ?_ | refine And.intro ?_ ?_))⟩, trivial⟩
            | true =>
              have h1' := h1
              have h3' := h3
              rw [hc'] at h1' h3'
              (conv => arg 1; whnf); (repeat' (first | (refine brt (by assumption) ?_; (conv => arg 1; whnf)) | (refine brf (by assumption) ?_; (conv => arg 1; whnf)) | fail))
              refine joinTo () [0, 1, 2, 3, 4] trivial (by decide) ?_ ?_ rfl
              · repeat' (first | exact True.intro | exact Fit.dead _ | exact .p rfl | exact .s rfl | exact Fit.v _ | exact Fit.v' (congrArg Value.bool (by rw [h1', h3']; rfl)) | refine And.intro ?_ ?_)
              · exact ⟨⟨_, rfl, .lit (fitRBook rfl rfl)⟩, ⟨_, rfl, .tab fun _ _ => rfl⟩, ⟨_, rfl, .tab fun _ _ => rfl⟩, ⟨_, rfl, .tab fun _ _ => rfl⟩, ⟨_, rfl, .lit (by rw [hc']; repeat' (first | exact True.intro | exact Fit.dead _ | exact Fit.v _ | exact .i fun _ _ => rfl | exact Fit.ip | exact .p rfl | exact .q rfl | exact .s rfl | exact .y rfl | refine Fit.al ?_ | refine Fit.fl ?_ ?_ | refine And.intro ?_ ?_))⟩, trivial⟩
        · (conv => arg 1; whnf); (repeat' (first | (refine brt (by assumption) ?_; (conv => arg 1; whnf)) | (refine brf (by assumption) ?_; (conv => arg 1; whnf)) | fail))
          refine joinIn (fun _ : Unit => True) (fun _ => frm 84 [(0, .p 0 0), (1, i64 car), (2, i64 fl), (3, boo up), (4, boo down), (11, .s 3 4 0 ((l.take k).filter p).length), (12, .s 2 4 0 ((l.take k).filter q).length), (13, i64 k), (14, .p 4 0), (15, boo (decide (c.fl = fl) && (decide (c.ca = car) && decide (0 ≤ car)))), (56, boo (decide (c.fl = fl) && decide (c.ca < 0)))]) (fun _ => [.lit (rbookC s 1 l.length bl), tabl eC l, tabl eC ((l.take k).filter q), tabl eC ((l.take k).filter p), .lit c.cs]) ?_ (fun _ _ => ?_)
          · cases h1 : decide (c.fl = fl) with
            | false =>
              (conv => arg 1; whnf); (repeat' (first | (refine brt (by assumption) ?_; (conv => arg 1; whnf)) | (refine brf (by assumption) ?_; (conv => arg 1; whnf)) | fail))
              refine joinTo () [0, 1, 2, 3, 4] trivial (by decide) ?_ ?_ rfl
              · repeat' (first | exact True.intro | exact Fit.dead _ | exact .p rfl | exact .s rfl | exact Fit.v _ | exact Fit.v' (congrArg Value.bool (by rw [h1]; rfl)) | refine And.intro ?_ ?_)
              · exact ⟨⟨_, rfl, .lit (fitRBook rfl rfl)⟩, ⟨_, rfl, .tab fun _ _ => rfl⟩, ⟨_, rfl, .tab fun _ _ => rfl⟩, ⟨_, rfl, .tab fun _ _ => rfl⟩, ⟨_, rfl, .lit (by repeat' (first | exact True.intro | exact Fit.dead _ | exact Fit.v _ | exact .i fun _ _ => rfl | exact Fit.ip | exact .p rfl | exact .q rfl | exact .s rfl | exact .y rfl | refine Fit.al ?_ | refine Fit.fl ?_ ?_ | refine And.intro ?_ ?_))⟩, trivial⟩
            | true =>
              (conv => arg 1; whnf); (repeat' (first | (refine brt (by assumption) ?_; (conv => arg 1; whnf)) | (refine brf (by assumption) ?_; (conv => arg 1; whnf)) | fail))
              refine joinTo () [0, 1, 2, 3, 4] trivial (by decide) ?_ ?_ rfl
              · repeat' (first | exact True.intro | exact Fit.dead _ | exact .p rfl | exact .s rfl | exact Fit.v _ | exact Fit.v' (congrArg Value.bool (by rw [h1]; rfl)) | refine And.intro ?_ ?_)
              · exact ⟨⟨_, rfl, .lit (fitRBook rfl rfl)⟩, ⟨_, rfl, .tab fun _ _ => rfl⟩, ⟨_, rfl, .tab fun _ _ => rfl⟩, ⟨_, rfl, .tab fun _ _ => rfl⟩, ⟨_, rfl, .lit (by repeat' (first | exact True.intro | exact Fit.dead _ | exact Fit.v _ | exact .i fun _ _ => rfl | exact Fit.ip | exact .p rfl | exact .q rfl | exact .s rfl | exact .y rfl | refine Fit.al ?_ | refine Fit.fl ?_ ?_ | refine And.intro ?_ ?_))⟩, trivial⟩
          · (conv => arg 1; whnf); (repeat' (first | (refine brt (by assumption) ?_; (conv => arg 1; whnf)) | (refine brf (by assumption) ?_; (conv => arg 1; whnf)) | fail))
            refine br (fun h2 => ?_) (fun h2 => ?_)
            · have h2 : (decide (c.fl = fl) && decide (c.ca < 0)) = true := h2
              cases h3 : c.up with
              | true =>
                cases h4 : up with
                | true =>
                  (conv => arg 1; whnf); (repeat' (first | (refine brt (by assumption) ?_; (conv => arg 1; whnf)) | (refine brf (by assumption) ?_; (conv => arg 1; whnf)) | fail))
                  · have hpc : p c = true := by
                      rw [hp, hx, h2, h3, h4]; rfl
                    have h1q : q c = false := by rw [hq]; show (!p c) = false; rw [hpc]; rfl
                    have c2 : ((0 + ((l.take k).filter p).length).ble ((l.take k).filter p).length && ((0 + 1).ble 1 && (((l.take k).filter p).length + 1).ble 4294967295)) = true := by simp [Nat.ble_eq]; omega
                    rw [← hc, hpc] at f1
                    rw [← hc, h1q] at f2
                    (conv => arg 1; whnf); (repeat' (first | (refine brt (by assumption) ?_; (conv => arg 1; whnf)) | (refine brf (by assumption) ?_; (conv => arg 1; whnf)) | fail))
                    refine again (k + 1) [0, 1, 2, 6] hlt (by show l.length - (k + 1) < l.length - k; omega) (by decide) ?_ ?_ rfl
                    · simp only [f1, f2, cond, List.append_nil]
                      repeat' (first | exact True.intro | exact Fit.dead _ | exact .p rfl | exact .s rfl | exact Fit.v _ | exact fit_s rfl rfl List.length_append | exact Fit.v' (congrArg (Value.int .i64) (nxt k (by omega)).symm) | refine And.intro ?_ ?_)
                    · simp only [f1, f2, cond, List.append_nil]
                      refine ⟨⟨_, rfl, .lit (fitRBook rfl rfl)⟩, ⟨_, rfl, .tab fun _ _ => rfl⟩, ⟨_, rfl, .tab fun _ _ => rfl⟩, ⟨_, rfl, ?_⟩, trivial⟩
                      exact fit_tab (e := eC) (RowIs.joined eC (RowIs.all eC (RowIs.row eC _)) (l2 := [c]) ⟨rfl, fun j hj => by
                        match j, hj with
                        | 0, _ => rfl⟩)
                | false =>
                  have h5 : (!c.up) = false := by rw [h3]; rfl
                  (conv => arg 1; whnf); (repeat' (first | (refine brt (by assumption) ?_; (conv => arg 1; whnf)) | (refine brf (by assumption) ?_; (conv => arg 1; whnf)) | fail))
                  · have hpc : p c = false := by
                      rw [hp, hx, h2, h3, h4]; rfl
                    have h1q : q c = true := by rw [hq]; show (!p c) = true; rw [hpc]; rfl
                    have c2 : ((0 + ((l.take k).filter q).length).ble ((l.take k).filter q).length && ((0 + 1).ble 1 && (((l.take k).filter q).length + 1).ble 4294967295)) = true := by simp [Nat.ble_eq]; omega
                    rw [← hc, hpc] at f1
                    rw [← hc, h1q] at f2
                    (conv => arg 1; whnf); (repeat' (first | (refine brt (by assumption) ?_; (conv => arg 1; whnf)) | (refine brf (by assumption) ?_; (conv => arg 1; whnf)) | fail))
                    refine again (k + 1) [0, 1, 6, 3] hlt (by show l.length - (k + 1) < l.length - k; omega) (by decide) ?_ ?_ rfl
                    · simp only [f1, f2, cond, List.append_nil]
                      repeat' (first | exact True.intro | exact Fit.dead _ | exact .p rfl | exact .s rfl | exact Fit.v _ | exact fit_s rfl rfl List.length_append | exact Fit.v' (congrArg (Value.int .i64) (nxt k (by omega)).symm) | refine And.intro ?_ ?_)
                    · simp only [f1, f2, cond, List.append_nil]
                      refine ⟨⟨_, rfl, .lit (fitRBook rfl rfl)⟩, ⟨_, rfl, .tab fun _ _ => rfl⟩, ⟨_, rfl, ?_⟩, ⟨_, rfl, .tab fun _ _ => rfl⟩, trivial⟩
                      exact fit_tab (e := eC) (RowIs.joined eC (RowIs.all eC (RowIs.row eC _)) (l2 := [c]) ⟨rfl, fun j hj => by
                        match j, hj with
                        | 0, _ => rfl⟩)
              | false =>
                have h5 : (!c.up) = true := by rw [h3]; rfl
                (conv => arg 1; whnf); (repeat' (first | (refine brt (by assumption) ?_; (conv => arg 1; whnf)) | (refine brf (by assumption) ?_; (conv => arg 1; whnf)) | fail))
                refine br (fun h4 => ?_) (fun h4 => ?_)
                · have hpc : p c = true := by
                    have h4 : down = true := h4; rw [hp, hx, h2, h3, h4]; rfl
                  have h1q : q c = false := by rw [hq]; show (!p c) = false; rw [hpc]; rfl
                  have c2 : ((0 + ((l.take k).filter p).length).ble ((l.take k).filter p).length && ((0 + 1).ble 1 && (((l.take k).filter p).length + 1).ble 4294967295)) = true := by simp [Nat.ble_eq]; omega
                  rw [← hc, hpc] at f1
                  rw [← hc, h1q] at f2
                  (conv => arg 1; whnf); (repeat' (first | (refine brt (by assumption) ?_; (conv => arg 1; whnf)) | (refine brf (by assumption) ?_; (conv => arg 1; whnf)) | fail))
                  refine again (k + 1) [0, 1, 2, 6] hlt (by show l.length - (k + 1) < l.length - k; omega) (by decide) ?_ ?_ rfl
                  · simp only [f1, f2, cond, List.append_nil]
                    repeat' (first | exact True.intro | exact Fit.dead _ | exact .p rfl | exact .s rfl | exact Fit.v _ | exact fit_s rfl rfl List.length_append | exact Fit.v' (congrArg (Value.int .i64) (nxt k (by omega)).symm) | refine And.intro ?_ ?_)
                  · simp only [f1, f2, cond, List.append_nil]
                    refine ⟨⟨_, rfl, .lit (fitRBook rfl rfl)⟩, ⟨_, rfl, .tab fun _ _ => rfl⟩, ⟨_, rfl, .tab fun _ _ => rfl⟩, ⟨_, rfl, ?_⟩, trivial⟩
                    exact fit_tab (e := eC) (RowIs.joined eC (RowIs.all eC (RowIs.row eC _)) (l2 := [c]) ⟨rfl, fun j hj => by
                      match j, hj with
                      | 0, _ => rfl⟩)
                · have hpc : p c = false := by
                    have h4 : down = false := h4; rw [hp, hx, h2, h3, h4]; rfl
                  have h1q : q c = true := by rw [hq]; show (!p c) = true; rw [hpc]; rfl
                  have c2 : ((0 + ((l.take k).filter q).length).ble ((l.take k).filter q).length && ((0 + 1).ble 1 && (((l.take k).filter q).length + 1).ble 4294967295)) = true := by simp [Nat.ble_eq]; omega
                  rw [← hc, hpc] at f1
                  rw [← hc, h1q] at f2
                  (conv => arg 1; whnf); (repeat' (first | (refine brt (by assumption) ?_; (conv => arg 1; whnf)) | (refine brf (by assumption) ?_; (conv => arg 1; whnf)) | fail))
                  refine again (k + 1) [0, 1, 6, 3] hlt (by show l.length - (k + 1) < l.length - k; omega) (by decide) ?_ ?_ rfl
                  · simp only [f1, f2, cond, List.append_nil]
                    repeat' (first | exact True.intro | exact Fit.dead _ | exact .p rfl | exact .s rfl | exact Fit.v _ | exact fit_s rfl rfl List.length_append | exact Fit.v' (congrArg (Value.int .i64) (nxt k (by omega)).symm) | refine And.intro ?_ ?_)
                  · simp only [f1, f2, cond, List.append_nil]
                    refine ⟨⟨_, rfl, .lit (fitRBook rfl rfl)⟩, ⟨_, rfl, .tab fun _ _ => rfl⟩, ⟨_, rfl, ?_⟩, ⟨_, rfl, .tab fun _ _ => rfl⟩, trivial⟩
                    exact fit_tab (e := eC) (RowIs.joined eC (RowIs.all eC (RowIs.row eC _)) (l2 := [c]) ⟨rfl, fun j hj => by
                      match j, hj with
                      | 0, _ => rfl⟩)
            · have h2 : (decide (c.fl = fl) && decide (c.ca < 0)) = false := h2
              (conv => arg 1; whnf); (repeat' (first | (refine brt (by assumption) ?_; (conv => arg 1; whnf)) | (refine brf (by assumption) ?_; (conv => arg 1; whnf)) | fail))
              refine br (fun h4 => ?_) (fun h4 => ?_)
              · have hpc : p c = true := by
                  have h4 : (decide (c.fl = fl) && (decide (c.ca = car) && decide (0 ≤ car))) = true := h4; rw [hp, hx, h2, h4]; rfl
                have h1q : q c = false := by rw [hq]; show (!p c) = false; rw [hpc]; rfl
                have c2 : ((0 + ((l.take k).filter p).length).ble ((l.take k).filter p).length && ((0 + 1).ble 1 && (((l.take k).filter p).length + 1).ble 4294967295)) = true := by simp [Nat.ble_eq]; omega
                rw [← hc, hpc] at f1
                rw [← hc, h1q] at f2
                (conv => arg 1; whnf); (repeat' (first | (refine brt (by assumption) ?_; (conv => arg 1; whnf)) | (refine brf (by assumption) ?_; (conv => arg 1; whnf)) | fail))
                refine again (k + 1) [0, 1, 2, 6] hlt (by show l.length - (k + 1) < l.length - k; omega) (by decide) ?_ ?_ rfl
                · simp only [f1, f2, cond, List.append_nil]
                  repeat' (first | exact True.intro | exact Fit.dead _ | exact .p rfl | exact .s rfl | exact Fit.v _ | exact fit_s rfl rfl List.length_append | exact Fit.v' (congrArg (Value.int .i64) (nxt k (by omega)).symm) | refine And.intro ?_ ?_)
                · simp only [f1, f2, cond, List.append_nil]
                  refine ⟨⟨_, rfl, .lit (fitRBook rfl rfl)⟩, ⟨_, rfl, .tab fun _ _ => rfl⟩, ⟨_, rfl, .tab fun _ _ => rfl⟩, ⟨_, rfl, ?_⟩, trivial⟩
                  exact fit_tab (e := eC) (RowIs.joined eC (RowIs.all eC (RowIs.row eC _)) (l2 := [c]) ⟨rfl, fun j hj => by
                    match j, hj with
                    | 0, _ => rfl⟩)
              · have hpc : p c = false := by
                  have h4 : (decide (c.fl = fl) && (decide (c.ca = car) && decide (0 ≤ car))) = false := h4; rw [hp, hx, h2, h4]; rfl
                have h1q : q c = true := by rw [hq]; show (!p c) = true; rw [hpc]; rfl
                have c2 : ((0 + ((l.take k).filter q).length).ble ((l.take k).filter q).length && ((0 + 1).ble 1 && (((l.take k).filter q).length + 1).ble 4294967295)) = true := by simp [Nat.ble_eq]; omega
                rw [← hc, hpc] at f1
                rw [← hc, h1q] at f2
                (conv => arg 1; whnf); (repeat' (first | (refine brt (by assumption) ?_; (conv => arg 1; whnf)) | (refine brf (by assumption) ?_; (conv => arg 1; whnf)) | fail))
                refine again (k + 1) [0, 1, 6, 3] hlt (by show l.length - (k + 1) < l.length - k; omega) (by decide) ?_ ?_ rfl
                · simp only [f1, f2, cond, List.append_nil]
                  repeat' (first | exact True.intro | exact Fit.dead _ | exact .p rfl | exact .s rfl | exact Fit.v _ | exact fit_s rfl rfl List.length_append | exact Fit.v' (congrArg (Value.int .i64) (nxt k (by omega)).symm) | refine And.intro ?_ ?_)
                · simp only [f1, f2, cond, List.append_nil]
                  refine ⟨⟨_, rfl, .lit (fitRBook rfl rfl)⟩, ⟨_, rfl, .tab fun _ _ => rfl⟩, ⟨_, rfl, ?_⟩, ⟨_, rfl, .tab fun _ _ => rfl⟩, trivial⟩
                  exact fit_tab (e := eC) (RowIs.joined eC (RowIs.all eC (RowIs.row eC _)) (l2 := [c]) ⟨rfl, fun j hj => by
                    match j, hj with
                    | 0, _ => rfl⟩)
      · (conv => arg 1; whnf); (repeat' (first | (refine brt (by assumption) ?_; (conv => arg 1; whnf)) | (refine brf (by assumption) ?_; (conv => arg 1; whnf)) | fail))
        refine leave ?_
        show tr _
        have hkl : k = l.length := by have := of_decide_eq_false h; omega
        subst hkl
        rw [List.take_length] at *
        (conv => arg 1; whnf); (repeat' (first | (refine brt (by assumption) ?_; (conv => arg 1; whnf)) | (refine brf (by assumption) ?_; (conv => arg 1; whnf)) | fail))
        exact finS [0, 1, 2, 3] (by decide) (.s rfl) ⟨⟨_, rfl, .lit (fitRBook rfl rfl)⟩, ⟨_, rfl, .gone _⟩, ⟨_, rfl, .tab fun _ _ => rfl⟩, ⟨_, rfl, .tab fun _ _ => rfl⟩, trivial⟩ rfl
end Go.Proofs.Ytbilkjolopdeiaa.E
