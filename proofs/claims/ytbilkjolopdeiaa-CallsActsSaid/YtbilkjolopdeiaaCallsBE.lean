/- The contracts of the book of calls, on: ticks, what is served, all calls, lamps, floors that are barred. -/
import Derived.Test.YtbilkjolopdeiaaCallsE
namespace Go.Proofs.Ytbilkjolopdeiaa.E
open Go NumMath
set_option linter.unusedSimpArgs false
set_option linter.unusedVariables false
set_option maxRecDepth 100000
set_option maxHeartbeats 4000000

theorem nilIn {a b : Prop} {n : Nat} (h1 : a) (h2 : n = 0 → b) : tr (some (a ∧ (n = 0 → b))) := ⟨h1, h2⟩
theorem nxt (k : Nat) (h : k ≤ 1000000000) : IntKind.i64.wrap ((k : Int) + 1) = ((k + 1 : Nat) : Int) := by rw [i64w _ (by omega) (by omega)]; omega
/-! ### New, and the floors that are barred -/
def newG : List AV → St → Option (Bool × AV × St)
  | [u], [] => match dSite.dec u with
    | some s => some (true, .p 0 0, [.lit (bookC s 1 0 0), .tab 4 0 fun _ => []])
    | none => none
  | _, _ => none
theorem new_ok : CtrOk Try.prog 24 (localCtr newG) :=
  localCtr_ok X0_ok Try.func24 (by decide) rfl fun args σ u σ' h => by
    unfold newG at h
    split at h
    case h_2 => cases h
    rename_i u0
    split at h
    case h_2 => cases h
    rename_i s hs
    obtain rfl := dSite.ok hs
    simp only [Option.some.injEq, Prod.mk.injEq, true_and] at h
    obtain ⟨rfl, rfl⟩ := h
    clear hs
    unfold runF
    (conv => arg 1; whnf)
    exact .cell 1 13 4 _ _ _ rfl rfl (by decide) .nil (.mk [1, 2] (by decide) ⟨.p rfl, trivial⟩ ⟨⟨_, rfl, .lit (by repeat' (first | exact True.intro | exact Fit.dead _ | exact Fit.v _ | exact .i fun _ _ => rfl | exact Fit.ip | exact .p rfl | exact .q rfl | exact .s rfl | exact .y rfl | refine Fit.al ?_ | refine Fit.fl ?_ ?_ | refine And.intro ?_ ?_))⟩, ⟨_, rfl, .tab fun _ _ => rfl⟩, trivial⟩ rfl)
def barredG : List AV → St → Option (Bool × AV × St)
  | [.p 0 0], σ => onBook (fun s l b => some (true, u64 b, fun C B => [.lit C, B])) σ
  | _, _ => none
theorem barred_ok : CtrOk Try.prog 37 (localCtr barredG) :=
  localCtr_can X0_ok Try.func37 (by decide) rfl fun args σ u σ' h => by
    unfold barredG at h
    split at h
    case h_2 => cases h
    obtain ⟨s, l, b, g, τ, rfl, hr, hl, hF, rfl⟩ := onBook_some h
    simp only [Option.some.injEq, Prod.mk.injEq, true_and] at hF
    obtain ⟨rfl, rfl⟩ := hF
    clear h
    refine ⟨_, sameBook hr, ?_⟩
    unfold runF
    (conv => arg 1; whnf)
    exact finS [0, 1] (by decide) (.v _) ⟨⟨_, rfl, .lit (by repeat' (first | exact True.intro | exact Fit.dead _ | exact Fit.v _ | exact .i fun _ _ => rfl | exact Fit.ip | exact .p rfl | exact .q rfl | exact .s rfl | exact .y rfl | refine Fit.al ?_ | refine Fit.fl ?_ ?_ | refine And.intro ?_ ?_))⟩, ⟨_, rfl, .tab hr.get⟩, trivial⟩ rfl
def barL (s : Site) (b f : Int) (on : Bool) : Int × Int := cond (s.there f) (0, cond on (withF (woutF b f) f) (woutF b f)) (2, b)
def barG : List AV → St → Option (Bool × AV × St)
  | [.p 0 0, .v (.int .i64 f), .v (.bool on)], σ => onBook (fun s l b => some (true, i64 (barL s b f on).1, fun C B => [.lit (bookC s 1 l.length (barL s b f on).2), B])) σ
  | _, _ => none
noncomputable def XK4 : Cx := ((X0.add 55 .pure (pureCtr withG)).add 54 .pure (pureCtr woutG)).add 46 (.foot footL) (localCtr thereG)
theorem XK4_ok : CxOk Try.prog XK4 := ((X0_ok.pure with_ok).pure wout_ok).loc there_ok
theorem bar_ok : CtrOk Try.prog 29 (localCtr barG) :=
  localCtr_can XK4_ok Try.func29 (by decide) rfl fun args σ u σ' h => by
    unfold barG at h
    split at h
    case h_2 => cases h
    rename_i f on
    obtain ⟨s, l, b, g, τ, rfl, hr, hl, hF, rfl⟩ := onBook_some h
    simp only [Option.some.injEq, Prod.mk.injEq, true_and] at hF
    obtain ⟨rfl, rfl⟩ := hF
    clear h
    have h1 : isRow eC l.length 4 (fun k => eC.enc (l.getD k eC.dflt)) = true := isRow_row eC (by omega)
    have h3 : (Nat.beq l.length l.length && (isRow eC l.length 4 (fun k => eC.enc (l.getD k eC.dflt)) && Nat.ble l.length 128)) = true := by rw [h1, Nat.ble_eq_true_of_le hl, Nat.beq_refl]; rfl
    refine ⟨_, sameBook hr, ?_⟩
    unfold runF
    (conv => arg 1; whnf); (repeat' (first | (refine brt (by assumption) ?_; (conv => arg 1; whnf)) | (refine brf (by assumption) ?_; (conv => arg 1; whnf)) | fail))
    refine br (fun h => ?_) (fun h => ?_)
    · have h : (!(s.there f)) = true := h
      have e : barL s b f on = (2, b) := by unfold barL; rw [show s.there f = false by simpa using h]; rfl
      rw [e]
      (conv => arg 1; whnf); (repeat' (first | (refine brt (by assumption) ?_; (conv => arg 1; whnf)) | (refine brf (by assumption) ?_; (conv => arg 1; whnf)) | fail))
      exact finS [0, 1] (by decide) (.v _) ⟨⟨_, rfl, .lit (by repeat' (first | exact True.intro | exact Fit.dead _ | exact Fit.v _ | exact .i fun _ _ => rfl | exact Fit.ip | exact .p rfl | exact .q rfl | exact .s rfl | exact .y rfl | refine Fit.al ?_ | refine Fit.fl ?_ ?_ | refine And.intro ?_ ?_))⟩, ⟨_, rfl, .tab hr.get⟩, trivial⟩ rfl
    · have h : (!(s.there f)) = false := h
      have e : barL s b f on = (0, cond on (withF (woutF b f) f) (woutF b f)) := by unfold barL; rw [show s.there f = true by simpa using h]; rfl
      rw [e]
      (conv => arg 1; whnf); (repeat' (first | (refine brt (by assumption) ?_; (conv => arg 1; whnf)) | (refine brf (by assumption) ?_; (conv => arg 1; whnf)) | fail))
      refine br (fun h2 => ?_) (fun h2 => ?_)
      · subst h2
        (conv => arg 1; whnf); (repeat' (first | (refine brt (by assumption) ?_; (conv => arg 1; whnf)) | (refine brf (by assumption) ?_; (conv => arg 1; whnf)) | fail))
        exact finS [0, 1] (by decide) (.v _) ⟨⟨_, rfl, .lit (by repeat' (first | exact True.intro | exact Fit.dead _ | exact Fit.v _ | exact .i fun _ _ => rfl | exact Fit.ip | exact .p rfl | exact .q rfl | exact .s rfl | exact .y rfl | refine Fit.al ?_ | refine Fit.fl ?_ ?_ | refine And.intro ?_ ?_))⟩, ⟨_, rfl, .tab hr.get⟩, trivial⟩ rfl
      · subst h2
        (conv => arg 1; whnf); (repeat' (first | (refine brt (by assumption) ?_; (conv => arg 1; whnf)) | (refine brf (by assumption) ?_; (conv => arg 1; whnf)) | fail))
        exact finS [0, 1] (by decide) (.v _) ⟨⟨_, rfl, .lit (by repeat' (first | exact True.intro | exact Fit.dead _ | exact Fit.v _ | exact .i fun _ _ => rfl | exact Fit.ip | exact .p rfl | exact .q rfl | exact .s rfl | exact .y rfl | refine Fit.al ?_ | refine Fit.fl ?_ ?_ | refine And.intro ?_ ?_))⟩, ⟨_, rfl, .tab hr.get⟩, trivial⟩ rfl

/-! ### All -/
def cloneCG : List AV → St → Option (Bool × AV × St)
  | [.s 0 4 0 n], [.tab 4 m g] => some (Nat.beq n m && (isRow eC n 4 g && Nat.ble n 100000), .s 1 4 0 n, [.tab 4 m g, tabl eC (rows eC n g)])
  | _, _ => none
theorem cloneC_ok : CtrOk Try.prog 51 (localCtr cloneCG) :=
  localCtr_can X0_ok Try.func51 (by decide) rfl fun args σ u σ' h => by
    unfold cloneCG at h
    split at h
    case h_2 => cases h
    rename_i n m g
    simp only [Option.some.injEq, Prod.mk.injEq, Bool.and_eq_true] at h
    obtain ⟨⟨h1, h2, h3⟩, rfl, rfl⟩ := h
    obtain rfl := Nat.eq_of_beq_eq_true h1
    have h3 := Nat.le_of_ble_eq_true h3
    obtain ⟨_, hr, _⟩ := isRow_get h2
    clear h1 h2
    generalize rows eC n g = l at hr
    have hl := hr.len
    subst hl
    refine ⟨[tabl eC l], .cons (.tab fun k hk => (hr.get k hk).symm) .nil, ?_⟩
    unfold runF
    (conv => arg 1; whnf)
    refine nilIn ?_ (fun h0 => ?_)
    · have c1 : ((0 + 0).ble 0 && (Nat.ble (0 + l.length) l.length && (0 + l.length).ble 4294967295)) = true := by simp [Nat.ble_eq]; omega
      (conv => arg 1; whnf); (repeat' (first | (refine brt (by assumption) ?_; (conv => arg 1; whnf)) | (refine brf (by assumption) ?_; (conv => arg 1; whnf)) | fail))
      refine finS [0, 2] (by decide) (fit_s rfl rfl (by omega)) ⟨⟨_, rfl, .tab hr.get⟩, ⟨_, rfl, ?_⟩, trivial⟩ rfl
      have hj := RowIs.joined eC (RowIs.nil eC fun _ => []) (RowIs.all eC (RowIs.row eC l))
      exact fit_tab (e := eC) hj
    · (conv => arg 1; whnf); (repeat' (first | (refine brt (by assumption) ?_; (conv => arg 1; whnf)) | (refine brf (by assumption) ?_; (conv => arg 1; whnf)) | fail))
      have h0 : l = [] := List.eq_nil_of_length_eq_zero h0
      subst h0
      exact Cov.slot 0 4 _ _ rfl (by decide) .nil (.mk [0, 1] (by decide) ⟨.s rfl, trivial⟩ ⟨⟨_, rfl, .tab hr.get⟩, ⟨_, rfl, .tab fun k hk => absurd hk (Nat.not_lt_zero k)⟩, trivial⟩ rfl)
noncomputable def XK5 : Cx := X0.add 51 (.foot footL) (localCtr cloneCG)
theorem XK5_ok : CxOk Try.prog XK5 := X0_ok.loc cloneC_ok
def allG : List AV → St → Option (Bool × AV × St)
  | [.p 0 0], σ => onBook (fun s l b => some (true, .s 2 4 0 l.length, fun C B => [.lit C, B, tabl eC l])) σ
  | _, _ => none
theorem all_ok : CtrOk Try.prog 26 (localCtr allG) :=
  localCtr_can XK5_ok Try.func26 (by decide) rfl fun args σ u σ' h => by
    unfold allG at h
    split at h
    case h_2 => cases h
    obtain ⟨s, l, b, g, τ, rfl, hr, hl, hF, rfl⟩ := onBook_some h
    simp only [Option.some.injEq, Prod.mk.injEq, true_and] at hF
    obtain ⟨rfl, rfl⟩ := hF
    clear h
    have h1 : isRow eC l.length 4 (fun k => eC.enc (l.getD k eC.dflt)) = true := isRow_row eC (by omega)
    have h3 : (Nat.beq l.length l.length && (isRow eC l.length 4 (fun k => eC.enc (l.getD k eC.dflt)) && Nat.ble l.length 100000)) = true := by rw [h1, Nat.ble_eq_true_of_le (by omega), Nat.beq_refl]; rfl
    refine ⟨_, sameBook hr, ?_⟩
    unfold runF
    (conv => arg 1; whnf); (repeat' (first | (refine brt (by assumption) ?_; (conv => arg 1; whnf)) | (refine brf (by assumption) ?_; (conv => arg 1; whnf)) | fail))
    refine finS [0, 1, 2] (by decide) (.s rfl) ⟨⟨_, rfl, .lit (by repeat' (first | exact True.intro | exact Fit.dead _ | exact Fit.v _ | exact .i fun _ _ => rfl | exact Fit.ip | exact .p rfl | exact .q rfl | exact .s rfl | exact .y rfl | refine Fit.al ?_ | refine Fit.fl ?_ ?_ | refine And.intro ?_ ?_))⟩, ⟨_, rfl, .tab hr.get⟩, ⟨_, rfl, ?_⟩, trivial⟩ rfl
    show FitB _ _ (tabl eC l) (tabl eC (rows eC l.length fun k => eC.enc (l.getD k eC.dflt)))
    rw [rows_row]
    exact .tab fun _ _ => rfl

/-! ### Ticks -/
def tickC (c : Call) : Call := { c with ag := lim (lim c.ag + lim 1) }
noncomputable def XK6 : Cx := X0.add 52 .pure (pureCtr addG)
theorem XK6_ok : CxOk Try.prog XK6 := X0_ok.pure add_ok
def tickG : List AV → St → Option (Bool × AV × St)
  | [.p 0 0], σ => onBook (fun s l b => some (true, .t [], fun C B => [.lit C, tabl eC (l.map tickC)])) σ
  | _, _ => none
/-- Ticks that have passed for k calls. -/
def tickK (l : List Call) (k : Nat) : List Call := (l.take k).map tickC ++ l.drop k
theorem tickK_len (l : List Call) (k : Nat) : (tickK l k).length = l.length := by simp [tickK]; omega
theorem tickK_get (l : List Call) (k : Nat) (h : k < l.length) : (tickK l k).getD k eC.dflt = l.getD k eC.dflt := by
  unfold tickK
  rw [List.getD_eq_getElem?_getD, List.getElem?_append_right (by simp; omega), List.getElem?_drop, List.getD_eq_getElem?_getD]
  congr 2
  simp; omega
theorem tickK_succ (l : List Call) (k : Nat) (h : k < l.length) : (tickK l k).set k (tickC (l.getD k eC.dflt)) = tickK l (k + 1) := by
  have hk : ((l.take k).map tickC).length = k := by simp; omega
  unfold tickK
  rw [List.set_append_right _ _ (by omega), hk, Nat.sub_self, List.drop_eq_getElem_cons h, List.set_cons_zero, List.take_succ_eq_append_getElem h, List.map_append, List.append_assoc]
  simp [List.getD_eq_getElem?_getD, h]
theorem tickK_all (l : List Call) : tickK l l.length = l.map tickC := by simp [tickK]
theorem tick_ok : CtrOk Try.prog 27 (localCtr tickG) :=
  localCtr_can XK6_ok Try.func27 (by decide) rfl fun args σ u σ' h => by
    unfold tickG at h
    split at h
    case h_2 => cases h
    obtain ⟨s, l, b, g, τ, rfl, hr, hl, hF, rfl⟩ := onBook_some h
    simp only [Option.some.injEq, Prod.mk.injEq, true_and] at hF
    obtain ⟨rfl, rfl⟩ := hF
    clear h
    refine ⟨_, sameBook hr, ?_⟩
    unfold runF
    (conv => arg 1; whnf)
    refine loopIn (fun k : Nat => k ≤ l.length) (fun k => frm 28 [(0, .p 0 0), (7, i64 l.length), (8, i64 k)]) (fun k => [.lit (bookC s 1 l.length b), .tab 4 l.length fun j => eC.enc ((tickK l k).getD j eC.dflt)]) (fun k => l.length - k) 0 [0, 1] (Nat.zero_le _) (by decide) ?_ ?_ rfl fun k hk => ?_
    · repeat' (first | exact True.intro | exact Fit.dead _ | exact Fit.v _ | exact .i fun _ _ => rfl | exact Fit.ip | exact .p rfl | exact .q rfl | exact .s rfl | exact .y rfl | refine Fit.al ?_ | refine Fit.fl ?_ ?_ | refine And.intro ?_ ?_)
    · exact ⟨⟨_, rfl, .lit (by repeat' (first | exact True.intro | exact Fit.dead _ | exact Fit.v _ | exact .i fun _ _ => rfl | exact Fit.ip | exact .p rfl | exact .q rfl | exact .s rfl | exact .y rfl | refine Fit.al ?_ | refine Fit.fl ?_ ?_ | refine And.intro ?_ ?_))⟩, ⟨_, rfl, .tab fun _ _ => rfl⟩, trivial⟩
    · have hk : k ≤ l.length := hk
      (conv => arg 1; whnf)
      refine br (fun h => ?_) (fun h => ?_)
      · have hlt : k < l.length := by have := of_decide_eq_true h; omega
        have e1 : decide (0 + (k : Int).toNat < l.length) = true := decide_eq_true (by omega)
        have ek : 0 + (k : Int).toNat = k := by omega
        (conv => arg 1; whnf); (repeat' (first | (refine brt (by assumption) ?_; (conv => arg 1; whnf)) | (refine brf (by assumption) ?_; (conv => arg 1; whnf)) | fail))
        refine again (k + 1) [0, 1] hlt (by show l.length - (k + 1) < l.length - k; omega) (by decide) ?_ ?_ rfl
        · repeat' (first | exact True.intro | exact Fit.dead _ | exact .p rfl | exact Fit.v _ | refine And.intro ?_ ?_)
          exact Fit.v' (congrArg (Value.int .i64) (nxt k (by omega)).symm)
        · refine ⟨⟨_, rfl, .lit (by repeat' (first | exact True.intro | exact Fit.dead _ | exact Fit.v _ | exact .i fun _ _ => rfl | exact Fit.ip | exact .p rfl | exact .q rfl | exact .s rfl | exact .y rfl | refine Fit.al ?_ | refine Fit.fl ?_ ?_ | refine And.intro ?_ ?_))⟩, ⟨_, rfl, .tab fun j hj => ?_⟩, trivial⟩
          have hrow := RowIs.put eC (n := l.length) (i := k) (i' := 0 + (k : Int).toNat) (j := 2) (g := fun j => eC.enc ((tickK l k).getD j eC.dflt)) (l := tickK l k) (cs := [i64 (tickC (l.getD k eC.dflt)).ag]) (a := tickC (l.getD k eC.dflt)) ⟨(tickK_len l k).symm, fun _ _ => rfl⟩ ek hlt (by rw [tickK_get l k hlt]; rfl)
          rw [tickK_succ l k hlt] at hrow
          refine (hrow.get j hj).symm.trans ?_
          show (if j = 0 + (k : Int).toNat then _ else _) = (if j = 0 + (k : Int).toNat then _ else _)
          split
          · rw [ek, tickK_get l k hlt]; rfl
          · rfl
      · (conv => arg 1; whnf); (repeat' (first | (refine brt (by assumption) ?_; (conv => arg 1; whnf)) | (refine brf (by assumption) ?_; (conv => arg 1; whnf)) | fail))
        refine leave ?_
        show tr _
        have hkl : k = l.length := by have := of_decide_eq_false h; omega
        subst hkl
        (conv => arg 1; whnf); (repeat' (first | (refine brt (by assumption) ?_; (conv => arg 1; whnf)) | (refine brf (by assumption) ?_; (conv => arg 1; whnf)) | fail))
        exact finS [0, 1] (by decide) (.tl trivial) ⟨⟨_, rfl, .lit (by repeat' (first | exact True.intro | exact Fit.dead _ | exact Fit.v _ | exact .i fun _ _ => rfl | exact Fit.ip | exact .p rfl | exact .q rfl | exact .s rfl | exact .y rfl | refine Fit.al ?_ | refine Fit.fl ?_ ?_ | refine And.intro ?_ ?_))⟩, ⟨_, rfl, by
          rw [tickK_all]
          exact fit_tab (e := eC) ⟨by simp, fun _ _ => rfl⟩⟩, trivial⟩ rfl

/-! ### What is served -/
def serveB (car fl : Int) (up down : Bool) (c : Call) : Bool := decide (c.fl = fl) && ((!(decide (c.ca = -1)) && decide (c.ca = car)) || (decide (c.ca = -1) && ((c.up && up) || (!c.up && down))))
structure Visit where
  (car fl : Int)
  (up down : Bool)
def dVisit : Dec Visit := ⟨fun u => match u with
  | .a [.v (.int .i64 a), .v (.int .i64 b), .v (.bool c), .v (.bool d)] => some ⟨a, b, c, d⟩
  | _ => none, fun v => .a [i64 v.car, i64 v.fl, boo v.up, boo v.down], fun {u a} h => (by split at h <;> first | (obtain rfl := Option.some.inj h; rfl) | cases h)⟩
def servesG : List AV → Option (Bool × AV) := fn2 dVisit dCall fun v c => giv true (boo (serveB v.car v.fl v.up v.down c))
theorem serves_ok : CtrOk Try.prog 53 (pureCtr servesG) :=
  pureCtr_ok X0_ok Try.func53 (by decide) rfl fun args u h => by
    obtain ⟨v, c, rfl, h⟩ := fn2_some h
    obtain ⟨_, rfl⟩ := giv_some h
    refine ⟨rfl, rfl, ?_⟩
    clear h
    unfold runF
    (conv => arg 1; whnf)
    repeat' (first | (refine brt (by assumption) ?_; (conv => arg 1; whnf)) | (refine brf (by assumption) ?_; (conv => arg 1; whnf)) | (refine br (fun h => ?_) (fun h => ?_) <;> ((conv => arg 1; whnf))))
    all_goals (refine finB ?_; unfold serveB; simp_all)
noncomputable def XK7 : Cx := X0.add 53 .pure (pureCtr servesG)
theorem XK7_ok : CxOk Try.prog XK7 := X0_ok.pure serves_ok
def serveG : List AV → St → Option (Bool × AV × St)
  | [.p 0 0, .v (.int .i64 car), .v (.int .i64 fl), .v (.bool up), .v (.bool down)], σ => onBook (fun s l b => some (true, .s 3 4 0 (l.filter (serveB car fl up down)).length, fun C B => [.lit (bookC s 2 (l.filter fun c => !serveB car fl up down c).length b), .gone, tabl eC (l.filter fun c => !serveB car fl up down c), tabl eC (l.filter (serveB car fl up down))])) σ
  | _, _ => none
theorem filter_take (p : Call → Bool) (l : List Call) (k : Nat) (h : k < l.length) : (l.take (k + 1)).filter p = (l.take k).filter p ++ cond (p (l.getD k eC.dflt)) [l.getD k eC.dflt] [] := by
  rw [List.take_succ_eq_append_getElem h, List.filter_append]
  congr 1
  have : l.getD k eC.dflt = l[k] := by simp [List.getD_eq_getElem?_getD, h]
  rw [this]
  cases hp : p l[k] <;> simp [hp]
theorem filt_le (p : Call → Bool) (l : List Call) (k : Nat) : ((l.take k).filter p).length ≤ l.length := Nat.le_trans (List.length_filter_le _ _) (by simp; omega)
theorem serve_ok : CtrOk Try.prog 28 (localCtr serveG) :=
  localCtr_can XK7_ok Try.func28 (by decide) rfl fun args σ u σ' h => by
    unfold serveG at h
    split at h
    case h_2 => cases h
    rename_i car fl up down
    obtain ⟨s, l, b, g, τ, rfl, hr, hl, hF, rfl⟩ := onBook_some h
    simp only [Option.some.injEq, Prod.mk.injEq, true_and] at hF
    obtain ⟨rfl, rfl⟩ := hF
    clear h
    refine ⟨_, sameBook hr, ?_⟩
    obtain ⟨p, hp⟩ : ∃ p, p = serveB car fl up down := ⟨_, rfl⟩
    rw [← hp]
    obtain ⟨q, hq⟩ : ∃ q : Call → Bool, q = fun c => !p c := ⟨_, rfl⟩
    rw [← hq]
    unfold runF
    (conv => arg 1; whnf)
    refine loopInC (fun k : Nat => k ≤ l.length) (fun k => frm 47 [(0, .p 0 0), (10, .s 3 4 0 ((l.take k).filter p).length), (11, .f (.func 53) [.a [i64 car, i64 fl, boo up, boo down]] []), (12, .s 2 4 0 ((l.take k).filter q).length), (24, .s 1 4 0 l.length), (25, i64 l.length), (26, i64 k)]) (fun k => [.lit (bookC s 1 l.length b), tabl eC l, tabl eC ((l.take k).filter q), tabl eC ((l.take k).filter p)]) (fun k => l.length - k) 0 (Nat.zero_le _)
      (.slot 12 4 _ _ rfl (by decide) .nil (.slot 10 4 _ _ rfl (by decide) .nil (.mk [0, 1, 2, 3] (by decide) ?_ ?_ rfl))) fun k hk => ?_
    · repeat' (first | exact True.intro | exact Fit.dead _ | exact .p rfl | exact .s rfl | exact Fit.v _ | refine Fit.fl ?_ ?_ | refine Fit.al ?_ | refine And.intro ?_ ?_)
    · exact ⟨⟨_, rfl, .lit (by repeat' (first | exact True.intro | exact Fit.dead _ | exact Fit.v _ | exact .i fun _ _ => rfl | exact Fit.ip | exact .p rfl | exact .q rfl | exact .s rfl | exact .y rfl | refine Fit.al ?_ | refine Fit.fl ?_ ?_ | refine And.intro ?_ ?_))⟩, ⟨_, rfl, .tab fun _ _ => rfl⟩, ⟨_, rfl, .tab fun k hk => absurd hk (Nat.not_lt_zero k)⟩, ⟨_, rfl, .tab fun k hk => absurd hk (Nat.not_lt_zero k)⟩, trivial⟩
    · have hk : k ≤ l.length := hk
      have hpl := filt_le p l k
      have hql := filt_le q l k
      (conv => arg 1; whnf)
      refine br (fun h => ?_) (fun h => ?_)
      · have hlt : k < l.length := by have := of_decide_eq_true h; omega
        have e1 : decide (0 + (k : Int).toNat < l.length) = true := decide_eq_true (by omega)
        have ek : 0 + (k : Int).toNat = k := by omega
        (conv => arg 1; whnf); (repeat' (first | (refine brt (by assumption) ?_; (conv => arg 1; whnf)) | (refine brf (by assumption) ?_; (conv => arg 1; whnf)) | fail))
        refine br (fun h1 => ?_) (fun h1 => ?_)
        · have h1 : serveB car fl up down (l.getD (0 + (k : Int).toNat) eC.dflt) = true := h1
          rw [ek, ← hp] at h1
          have h1q : q (l.getD k eC.dflt) = false := by rw [hq]; show (!p _) = false; rw [h1]; rfl
          have c2 : ((0 + ((l.take k).filter p).length).ble ((l.take k).filter p).length && ((0 + 1).ble 1 && (((l.take k).filter p).length + 1).ble 4294967295)) = true := by simp [Nat.ble_eq]; omega
          have f1 := filter_take p l k hlt
          have f2 := filter_take q l k hlt
          rw [h1] at f1
          rw [h1q] at f2
          (conv => arg 1; whnf); (repeat' (first | (refine brt (by assumption) ?_; (conv => arg 1; whnf)) | (refine brf (by assumption) ?_; (conv => arg 1; whnf)) | fail))
          refine again (k + 1) [0, 1, 2, 6] hlt (by show l.length - (k + 1) < l.length - k; omega) (by decide) ?_ ?_ rfl
          · simp only [f1, f2, cond, List.append_nil]
            repeat' (first | exact True.intro | exact Fit.dead _ | exact .p rfl | exact .s rfl | exact Fit.v _ | refine Fit.fl ?_ ?_ | refine Fit.al ?_ | exact fit_s rfl rfl List.length_append | exact Fit.v' (congrArg (Value.int .i64) (nxt k (by omega)).symm) | refine And.intro ?_ ?_)
          · simp only [f1, f2, cond, List.append_nil]
            refine ⟨⟨_, rfl, .lit (by repeat' (first | exact True.intro | exact Fit.dead _ | exact Fit.v _ | exact .i fun _ _ => rfl | exact Fit.ip | exact .p rfl | exact .q rfl | exact .s rfl | exact .y rfl | refine Fit.al ?_ | refine Fit.fl ?_ ?_ | refine And.intro ?_ ?_))⟩, ⟨_, rfl, .tab fun _ _ => rfl⟩, ⟨_, rfl, .tab fun _ _ => rfl⟩, ⟨_, rfl, ?_⟩, trivial⟩
            exact fit_tab (e := eC) (RowIs.joined eC (RowIs.all eC (RowIs.row eC _)) (l2 := [l.getD k eC.dflt]) ⟨rfl, fun j hj => by
              match j, hj with
              | 0, _ => exact (show eC.enc (l.getD (0 + (k : Int).toNat) eC.dflt) = eC.enc (l.getD k eC.dflt) by rw [ek])⟩)
        · have h1 : serveB car fl up down (l.getD (0 + (k : Int).toNat) eC.dflt) = false := h1
          rw [ek, ← hp] at h1
          have h1q : q (l.getD k eC.dflt) = true := by rw [hq]; show (!p _) = true; rw [h1]; rfl
          have c2 : ((0 + ((l.take k).filter q).length).ble ((l.take k).filter q).length && ((0 + 1).ble 1 && (((l.take k).filter q).length + 1).ble 4294967295)) = true := by simp [Nat.ble_eq]; omega
          have f1 := filter_take p l k hlt
          have f2 := filter_take q l k hlt
          rw [h1] at f1
          rw [h1q] at f2
          (conv => arg 1; whnf); (repeat' (first | (refine brt (by assumption) ?_; (conv => arg 1; whnf)) | (refine brf (by assumption) ?_; (conv => arg 1; whnf)) | fail))
          refine again (k + 1) [0, 1, 6, 3] hlt (by show l.length - (k + 1) < l.length - k; omega) (by decide) ?_ ?_ rfl
          · simp only [f1, f2, cond, List.append_nil]
            repeat' (first | exact True.intro | exact Fit.dead _ | exact .p rfl | exact .s rfl | exact Fit.v _ | refine Fit.fl ?_ ?_ | refine Fit.al ?_ | exact fit_s rfl rfl List.length_append | exact Fit.v' (congrArg (Value.int .i64) (nxt k (by omega)).symm) | refine And.intro ?_ ?_)
          · simp only [f1, f2, cond, List.append_nil]
            refine ⟨⟨_, rfl, .lit (by repeat' (first | exact True.intro | exact Fit.dead _ | exact Fit.v _ | exact .i fun _ _ => rfl | exact Fit.ip | exact .p rfl | exact .q rfl | exact .s rfl | exact .y rfl | refine Fit.al ?_ | refine Fit.fl ?_ ?_ | refine And.intro ?_ ?_))⟩, ⟨_, rfl, .tab fun _ _ => rfl⟩, ⟨_, rfl, ?_⟩, ⟨_, rfl, .tab fun _ _ => rfl⟩, trivial⟩
            exact fit_tab (e := eC) (RowIs.joined eC (RowIs.all eC (RowIs.row eC _)) (l2 := [l.getD k eC.dflt]) ⟨rfl, fun j hj => by
              match j, hj with
              | 0, _ => exact (show eC.enc (l.getD (0 + (k : Int).toNat) eC.dflt) = eC.enc (l.getD k eC.dflt) by rw [ek])⟩)
      · (conv => arg 1; whnf); (repeat' (first | (refine brt (by assumption) ?_; (conv => arg 1; whnf)) | (refine brf (by assumption) ?_; (conv => arg 1; whnf)) | fail))
        refine leave ?_
        show tr _
        have hkl : k = l.length := by have := of_decide_eq_false h; omega
        subst hkl
        rw [List.take_length] at *
        (conv => arg 1; whnf); (repeat' (first | (refine brt (by assumption) ?_; (conv => arg 1; whnf)) | (refine brf (by assumption) ?_; (conv => arg 1; whnf)) | fail))
        exact finS [0, 1, 2, 3] (by decide) (.s rfl) ⟨⟨_, rfl, .lit (by repeat' (first | exact True.intro | exact Fit.dead _ | exact Fit.v _ | exact .i fun _ _ => rfl | exact Fit.ip | exact .p rfl | exact .q rfl | exact .s rfl | exact .y rfl | refine Fit.al ?_ | refine Fit.fl ?_ ?_ | refine And.intro ?_ ?_))⟩, ⟨_, rfl, .gone _⟩, ⟨_, rfl, .tab fun _ _ => rfl⟩, ⟨_, rfl, .tab fun _ _ => rfl⟩, trivial⟩ rfl
end Go.Proofs.Ytbilkjolopdeiaa.E
