/- The contracts of the book of calls: sets of floors; what may be pressed; what is noted. -/
import Derived.Test.YtbilkjolopdeiaaNumE
import Derived.Test.YtbilkjolopdeiaaSiteE
import Derived.Test.YtbilkjolopdeiaaEFresh
import Derived.Test.YtbilkjolopdeiaaFloorBits
namespace Go.Proofs.Ytbilkjolopdeiaa.E
open Go
set_option linter.unusedSimpArgs false
set_option linter.unusedVariables false
set_option maxRecDepth 100000
set_option maxHeartbeats 4000000

theorem fit_s {ρ : List Nat} {σ : St} {l m sz o n o' n' : Nat} (h : ρ[l]? = some m) (ho : o = o') (hn : n = n') : Fit ρ σ (.s l sz o n) (.s m sz o' n') := by subst ho hn; exact .s h
/-! ### Sets of floors -/
def bitG : List AV → Option (Bool × AV) := fn1 dI fun f => giv true (u64 (bitS f))
theorem bit_ok : CtrOk Try.prog 56 (pureCtr bitG) :=
  pureCtr_ok X0_ok Try.func56 (by decide) rfl fun args u h => by
    obtain ⟨f, rfl, h⟩ := fn1_some h
    obtain ⟨_, rfl⟩ := giv_some h
    refine ⟨rfl, rfl, ?_⟩
    clear h
    unfold runF
    (conv => arg 1; whnf)
    refine br (fun h1 => ?_) (fun h1 => ?_)
    · (conv => arg 1; whnf); (repeat' (first | (refine brt (by assumption) ?_; (conv => arg 1; whnf)) | (refine brf (by assumption) ?_; (conv => arg 1; whnf)) | fail))
      refine finU ?_
      unfold bitS; rw [h1]; rfl
    · have h0 : decide (0 ≤ f) = true := decide_eq_true (by have := of_decide_eq_false h1; omega)
      (conv => arg 1; whnf); (repeat' (first | (refine brt (by assumption) ?_; (conv => arg 1; whnf)) | (refine brf (by assumption) ?_; (conv => arg 1; whnf)) | fail))
      refine br (fun h2 => ?_) (fun h2 => ?_)
      · (conv => arg 1; whnf); (repeat' (first | (refine brt (by assumption) ?_; (conv => arg 1; whnf)) | (refine brf (by assumption) ?_; (conv => arg 1; whnf)) | fail))
        refine finU ?_
        unfold bitS; rw [h1, h2]; rfl
      · (conv => arg 1; whnf); (repeat' (first | (refine brt (by assumption) ?_; (conv => arg 1; whnf)) | (refine brf (by assumption) ?_; (conv => arg 1; whnf)) | fail))
        refine finU ?_
        unfold bitS; rw [h1, h2]; rfl
def XB0 : Cx := X0.add 56 .pure (pureCtr bitG)
theorem XB0_ok : CxOk Try.prog XB0 := X0_ok.pure bit_ok
def hasG : List AV → Option (Bool × AV) := fn2 dU dI fun b f => giv true (boo (hasF b f))
theorem has_ok : CtrOk Try.prog 36 (pureCtr hasG) :=
  pureCtr_ok XB0_ok Try.func36 (by decide) rfl fun args u h => by
    obtain ⟨b, f, rfl, h⟩ := fn2_some h
    obtain ⟨_, rfl⟩ := giv_some h
    refine ⟨rfl, rfl, ?_⟩
    clear h
    unfold runF
    (conv => arg 1; whnf)
    exact finB rfl
def withG : List AV → Option (Bool × AV) := fn2 dU dI fun b f => giv true (u64 (withF b f))
theorem with_ok : CtrOk Try.prog 55 (pureCtr withG) :=
  pureCtr_ok XB0_ok Try.func55 (by decide) rfl fun args u h => by
    obtain ⟨b, f, rfl, h⟩ := fn2_some h
    obtain ⟨_, rfl⟩ := giv_some h
    refine ⟨rfl, rfl, ?_⟩
    clear h
    unfold runF
    (conv => arg 1; whnf)
    exact finU rfl
def woutG : List AV → Option (Bool × AV) := fn2 dU dI fun b f => giv true (u64 (woutF b f))
theorem wout_ok : CtrOk Try.prog 54 (pureCtr woutG) :=
  pureCtr_ok XB0_ok Try.func54 (by decide) rfl fun args u h => by
    obtain ⟨b, f, rfl, h⟩ := fn2_some h
    obtain ⟨_, rfl⟩ := giv_some h
    refine ⟨rfl, rfl, ?_⟩
    clear h
    unfold runF
    (conv => arg 1; whnf)
    exact finU rfl

/-! ### Calls -/
structure Call where
  (fl ca ag : Int)
  up : Bool
def Call.cs (c : Call) : List AV := [i64 c.fl, i64 c.ca, i64 c.ag, boo c.up]
def Call.av (c : Call) : AV := .a c.cs
def dCall : Dec Call := ⟨fun u => match u with
  | .a [.v (.int .i64 a), .v (.int .i64 b), .v (.int .i64 c), .v (.bool d)] => some ⟨a, b, c, d⟩
  | _ => none, Call.av, fun {u a} h => (by split at h <;> first | (obtain rfl := Option.some.inj h; rfl) | cases h)⟩
def eC : Elt Call := ⟨4, fun u => match u with | [.v (.int .i64 a), .v (.int .i64 b), .v (.int .i64 c), .v (.bool d)] => some ⟨a, b, c, d⟩ | _ => none, Call.cs, ⟨0, 0, 0, false⟩, fun {u a} h => (by split at h <;> first | (obtain rfl := Option.some.inj h; rfl) | cases h), fun _ => rfl⟩
theorem callGet (l : List Call) (k : Nat) : eC.enc (l.getD k eC.dflt) = (l.getD k eC.dflt).cs := rfl

/-- A book's cells: the site, the calls, the floors that are barred. -/
abbrev bookC (s : Site) (r n : Nat) (b : Int) : List AV := [i64 s.fl, i64 s.ca, i64 s.st, i64 s.sp, i64 s.so, i64 s.op, i64 s.wa, i64 s.cl, i64 s.nu, i64 s.ag, i64 s.si, i64 s.bu, i64 s.pe, .s r 4 0 n, u64 b]
def rdBook : List AV → Option (Site × Nat × Nat × Int)
  | [.v (.int .i64 a), .v (.int .i64 b), .v (.int .i64 c), .v (.int .i64 d), .v (.int .i64 e), .v (.int .i64 f), .v (.int .i64 g), .v (.int .i64 h), .v (.int .i64 i), .v (.int .i64 j), .v (.int .i64 k), .v (.int .i64 l), .v (.int .i64 m), .s r 4 0 n, .v (.int .u64 x)] => some (⟨a, b, c, d, e, f, g, h, i, j, k, l, m⟩, r, n, x)
  | _ => none
theorem rdBook_some {cs : List AV} {p : Site × Nat × Nat × Int} (h : rdBook cs = some p) : cs = bookC p.1 p.2.1 p.2.2.1 p.2.2.2 := by
  unfold rdBook at h
  split at h
  · obtain rfl := Option.some.inj h; rfl
  · cases h
/-- What is done with a book: answered, with the roots behind it. -/
def onBook (F : Site → List Call → Int → Option (Bool × AV × (List AV → Blk → St))) : St → Option (Bool × AV × St)
  | [.lit cs, .tab 4 m g] => match rdBook cs with
    | some (s, 1, n, b) => match F s (rows eC n g) b with
      | some (c, u, τ) => some (c && (Nat.beq n m && (isRow eC n 4 g && Nat.ble n 128)), u, τ cs (.tab 4 m g))
      | none => none
    | _ => none
  | _ => none
theorem isRow_get {α : Type} {e : Elt α} {n sz : Nat} {g : Nat → List AV} (h : isRow e n sz g = true) : sz = e.sz ∧ RowIs e n g (rows e n g) ∧ n < 281474976710656 := by
  unfold isRow at h
  simp only [Bool.and_eq_true, Nat.blt_eq] at h
  exact ⟨Nat.eq_of_beq_eq_true h.1, ⟨(rows_len e n g).symm, fun k hk => okRow_get e h.2.1 hk⟩, h.2.2⟩
theorem onBook_some {F : Site → List Call → Int → Option (Bool × AV × (List AV → Blk → St))} {σ σ' : St} {u : AV} (h : onBook F σ = some (true, u, σ')) : ∃ s l b g τ, σ = [.lit (bookC s 1 l.length b), .tab 4 l.length g] ∧ RowIs eC l.length g l ∧ l.length ≤ 128 ∧ F s l b = some (true, u, τ) ∧ σ' = τ (bookC s 1 l.length b) (.tab 4 l.length g) := by
  unfold onBook at h
  split at h
  case h_2 => cases h
  rename_i cs m g
  split at h
  case h_2 => cases h
  rename_i s n b hb
  split at h
  case h_2 => cases h
  rename_i c u' τ hF
  simp only [Option.some.injEq, Prod.mk.injEq, Bool.and_eq_true] at h
  obtain ⟨⟨hc, h1, h2, h3⟩, rfl, rfl⟩ := h
  subst hc
  obtain rfl := Nat.eq_of_beq_eq_true h1
  obtain ⟨_, hr, _⟩ := isRow_get h2
  have hcs := rdBook_some hb
  simp only at hcs
  subst hcs
  generalize rows eC n g = l at hr hF
  have hl := hr.len
  subst hl
  exact ⟨s, l, b, g, τ, rfl, hr, Nat.le_of_ble_eq_true h3, hF, rfl⟩

theorem sameBook {l : List Call} {g : Nat → List AV} (hr : RowIs eC l.length g l) {cs : List AV} : SameS [.lit cs, tabl eC l] [.lit cs, .tab 4 l.length g] := .cons (.inl rfl) (.cons (.tab fun k hk => (hr.get k hk).symm) .nil)
def Site.there (s : Site) (f : Int) : Bool := cond (decide (0 ≤ f)) (decide (f < s.fl)) false
def thereG : List AV → St → Option (Bool × AV × St)
  | [.p 0 0, .v (.int .i64 f)], σ => onBook (fun s l b => some (true, boo (s.there f), fun C B => [.lit C, B])) σ
  | _, _ => none
theorem there_ok : CtrOk Try.prog 46 (localCtr thereG) :=
  localCtr_can XB0_ok Try.func46 (by decide) rfl fun args σ u σ' h => by
    unfold thereG at h
    split at h
    case h_2 => cases h
    rename_i f
    obtain ⟨s, l, b, g, τ, rfl, hr, hl, hF, rfl⟩ := onBook_some h
    simp only [Option.some.injEq, Prod.mk.injEq, true_and] at hF
    obtain ⟨rfl, rfl⟩ := hF
    clear h
    refine ⟨_, sameBook hr, ?_⟩
    unfold runF
    (conv => arg 1; whnf)
    repeat' (first | (refine brt (by assumption) ?_; (conv => arg 1; whnf)) | (refine brf (by assumption) ?_; (conv => arg 1; whnf)) | (refine br (fun h => ?_) (fun h => ?_) <;> ((conv => arg 1; whnf))))
    all_goals
      refine finS [0, 1] (by decide) (Fit.v' (congrArg Value.bool ?_)) ⟨⟨_, rfl, .lit ?_⟩, ⟨_, rfl, .tab hr.get⟩, trivial⟩ rfl
      · unfold Site.there; simp only [*, cond]
      · repeat' (first | exact True.intro | exact Fit.dead _ | exact Fit.v _ | exact .i fun _ _ => rfl | exact Fit.ip | exact .p rfl | exact .q rfl | exact .s rfl | exact .y rfl | refine Fit.al ?_ | refine Fit.fl ?_ ?_ | refine And.intro ?_ ?_)
def Site.odd (s : Site) (c : Call) : Bool := cond (!(decide (c.ca = -1))) c.up (cond c.up (decide (c.fl = IntKind.i64.wrap (s.fl - 1))) (decide (c.fl = 0)))
def oddG : List AV → St → Option (Bool × AV × St)
  | [.p 0 0, u], σ => match dCall.dec u with
    | some c => onBook (fun s l b => some (true, boo (s.odd c), fun C B => [.lit C, B])) σ
    | none => none
  | _, _ => none
theorem odd_ok : CtrOk Try.prog 47 (localCtr oddG) :=
  localCtr_can XB0_ok Try.func47 (by decide) rfl fun args σ u σ' h => by
    unfold oddG at h
    split at h
    case h_2 => cases h
    rename_i u0
    split at h
    case h_2 => cases h
    rename_i c hc
    obtain rfl := dCall.ok hc
    obtain ⟨s, l, b, g, τ, rfl, hr, hl, hF, rfl⟩ := onBook_some h
    simp only [Option.some.injEq, Prod.mk.injEq, true_and] at hF
    obtain ⟨rfl, rfl⟩ := hF
    clear h hc
    refine ⟨_, sameBook hr, ?_⟩
    unfold runF
    (conv => arg 1; whnf)
    repeat' (first | (refine brt (by assumption) ?_; (conv => arg 1; whnf)) | (refine brf (by assumption) ?_; (conv => arg 1; whnf)) | (refine br (fun h => ?_) (fun h => ?_) <;> ((conv => arg 1; whnf))))
    all_goals
      refine finS [0, 1] (by decide) (Fit.v' (congrArg Value.bool ?_)) ⟨⟨_, rfl, .lit ?_⟩, ⟨_, rfl, .tab hr.get⟩, trivial⟩ rfl
      · unfold Site.odd; simp_all
      · repeat' (first | exact True.intro | exact Fit.dead _ | exact Fit.v _ | exact .i fun _ _ => rfl | exact Fit.ip | exact .p rfl | exact .q rfl | exact .s rfl | exact .y rfl | refine Fit.al ?_ | refine Fit.fl ?_ ?_ | refine And.intro ?_ ?_)
def keyG : List AV → Option (Bool × AV) := fn1 dCall fun c => giv true (.a [i64 c.fl, i64 c.ca, boo c.up])
theorem key_ok : CtrOk Try.prog 50 (pureCtr keyG) :=
  pureCtr_ok X0_ok Try.func50 (by decide) rfl fun args u h => by
    obtain ⟨c, rfl, h⟩ := fn1_some h
    obtain ⟨_, rfl⟩ := giv_some h
    refine ⟨rfl, rfl, ?_⟩
    clear h
    unfold runF
    (conv => arg 1; whnf)
    exact finA (by repeat' (first | exact True.intro | exact Fit.dead _ | exact Fit.v _ | exact .i fun _ _ => rfl | exact Fit.ip | exact .p rfl | exact .q rfl | exact .s rfl | exact .y rfl | refine Fit.al ?_ | refine Fit.fl ?_ ?_ | refine And.intro ?_ ?_))
def XK0 : Cx := X0.add 50 .pure (pureCtr keyG)
theorem XK0_ok : CxOk Try.prog XK0 := X0_ok.pure key_ok
noncomputable def XK1 : Cx := X0.addRun 49 (runFn XK0 Try.f49 (bodyOf Try.f49))
theorem XK1_ok : CxOk Try.prog XK1 := X0_ok.addRun (runFn_ok XK0_ok Try.func49 (by decide) rfl)
noncomputable def XK2 : Cx := X0.addRun 63 (runFn XK1 Try.f63 (bodyOf Try.f63))
theorem XK2_ok : CxOk Try.prog XK2 := X0_ok.addRun (runFn_ok XK1_ok Try.func63 (by decide) rfl)
noncomputable def XK3 : Cx := ((((X0.add 36 .pure (pureCtr hasG)).add 46 (.foot footL) (localCtr thereG)).add 47 (.foot footL) (localCtr oddG)).addRun 48 (runFn XK2 Try.f48 (bodyOf Try.f48)))
theorem XK3_ok : CxOk Try.prog XK3 := (((X0_ok.pure has_ok).loc there_ok).loc odd_ok).addRun (runFn_ok XK2_ok Try.func48 (by decide) rfl)
def alike (c x : Call) : Bool := decide (x.fl = c.fl) && (decide (x.ca = c.ca) && decide (x.up = c.up))
def pressL (s : Site) (l : List Call) (b : Int) (c : Call) : Int × List Call :=
  cond (!(s.there c.fl)) (2, l) (cond (decide (c.ca < -1)) (2, l) (cond (decide (s.ca ≤ c.ca)) (2, l) (cond (s.odd c) (1, l) (cond (hasF b c.fl) (8, l) (cond (l.any (alike c)) (0, l) (cond (decide (128 ≤ l.length)) (4, l) (0, l ++ [{ c with ag := 0 }])))))))
def pressG : List AV → St → Option (Bool × AV × St)
  | [.p 0 0, u], σ => match dCall.dec u with
    | some c => onBook (fun s l b => some (true, i64 (pressL s l b c).1, fun _ _ => [.lit (bookC s 2 (pressL s l b c).2.length b), .gone, tabl eC (pressL s l b c).2])) σ
    | none => none
  | _, _ => none
theorem press_ok : CtrOk Try.prog 25 (localCtr pressG) :=
  localCtr_can XK3_ok Try.func25 (by decide) rfl fun args σ u σ' h => by
    unfold pressG at h
    split at h
    case h_2 => cases h
    rename_i u0
    split at h
    case h_2 => cases h
    rename_i c hc
    obtain rfl := dCall.ok hc
    obtain ⟨s, l, b, g, τ, rfl, hr, hl, hF, rfl⟩ := onBook_some h
    simp only [Option.some.injEq, Prod.mk.injEq, true_and] at hF
    obtain ⟨rfl, rfl⟩ := hF
    clear h hc
    have h1 : isRow eC l.length 4 (fun k => eC.enc (l.getD k eC.dflt)) = true := isRow_row eC (by omega)
    have h2 : Nat.ble l.length 128 = true := Nat.ble_eq_true_of_le hl
    have h3 : (Nat.beq l.length l.length && (isRow eC l.length 4 (fun k => eC.enc (l.getD k eC.dflt)) && Nat.ble l.length 128)) = true := by rw [h1, h2, Nat.beq_refl]; rfl
    refine ⟨_, sameBook hr, ?_⟩
    have done : ∀ {k : Int} {cs : List AV} {τ : St}, pressL s l b c = (k, l) → FitL [0, 1, 1] (.lit cs :: tabl eC l :: τ) (bookC s 2 l.length b) cs → tr (Fin 2 (i64 (pressL s l b c).1) [.lit (bookC s 2 (pressL s l b c).2.length b), .gone, tabl eC (pressL s l b c).2] (i64 k) (.lit cs :: tabl eC l :: τ)) := by
      intro k cs τ e hf
      rw [e]
      exact finD [0, 1, 1] rfl (.v _) ⟨⟨_, rfl, .lit hf⟩, ⟨_, rfl, .gone _⟩, ⟨_, rfl, .tab fun _ _ => rfl⟩, trivial⟩ rfl
    unfold runF
    (conv => arg 1; whnf); (repeat' (first | (refine brt (by assumption) ?_; (conv => arg 1; whnf)) | (refine brf (by assumption) ?_; (conv => arg 1; whnf)) | fail))
    refine br (fun h => ?_) (fun h => ?_)
    · have h : (!(s.there c.fl)) = true := h
      (conv => arg 1; whnf); (repeat' (first | (refine brt (by assumption) ?_; (conv => arg 1; whnf)) | (refine brf (by assumption) ?_; (conv => arg 1; whnf)) | fail))
      refine done (by unfold pressL; rw [h]; rfl) (by repeat' (first | exact True.intro | exact Fit.dead _ | exact Fit.v _ | exact .i fun _ _ => rfl | exact Fit.ip | exact .p rfl | exact .q rfl | exact .s rfl | exact .y rfl | refine Fit.al ?_ | refine Fit.fl ?_ ?_ | refine And.intro ?_ ?_))
    · have h : (!(s.there c.fl)) = false := h
      (conv => arg 1; whnf); (repeat' (first | (refine brt (by assumption) ?_; (conv => arg 1; whnf)) | (refine brf (by assumption) ?_; (conv => arg 1; whnf)) | fail))
      refine br (fun h4 => ?_) (fun h4 => ?_)
      · (conv => arg 1; whnf); (repeat' (first | (refine brt (by assumption) ?_; (conv => arg 1; whnf)) | (refine brf (by assumption) ?_; (conv => arg 1; whnf)) | fail))
        refine done (by unfold pressL; rw [h, h4]; rfl) (by repeat' (first | exact True.intro | exact Fit.dead _ | exact Fit.v _ | exact .i fun _ _ => rfl | exact Fit.ip | exact .p rfl | exact .q rfl | exact .s rfl | exact .y rfl | refine Fit.al ?_ | refine Fit.fl ?_ ?_ | refine And.intro ?_ ?_))
      · (conv => arg 1; whnf); (repeat' (first | (refine brt (by assumption) ?_; (conv => arg 1; whnf)) | (refine brf (by assumption) ?_; (conv => arg 1; whnf)) | fail))
        refine br (fun h5 => ?_) (fun h5 => ?_)
        · (conv => arg 1; whnf); (repeat' (first | (refine brt (by assumption) ?_; (conv => arg 1; whnf)) | (refine brf (by assumption) ?_; (conv => arg 1; whnf)) | fail))
          refine done (by unfold pressL; rw [h, h4, h5]; rfl) (by repeat' (first | exact True.intro | exact Fit.dead _ | exact Fit.v _ | exact .i fun _ _ => rfl | exact Fit.ip | exact .p rfl | exact .q rfl | exact .s rfl | exact .y rfl | refine Fit.al ?_ | refine Fit.fl ?_ ?_ | refine And.intro ?_ ?_))
        · (conv => arg 1; whnf); (repeat' (first | (refine brt (by assumption) ?_; (conv => arg 1; whnf)) | (refine brf (by assumption) ?_; (conv => arg 1; whnf)) | fail))
          refine br (fun h6 => ?_) (fun h6 => ?_)
          · have h6 : s.odd c = true := h6
            (conv => arg 1; whnf); (repeat' (first | (refine brt (by assumption) ?_; (conv => arg 1; whnf)) | (refine brf (by assumption) ?_; (conv => arg 1; whnf)) | fail))
            refine done (by unfold pressL; rw [h, h4, h5, h6]; rfl) (by repeat' (first | exact True.intro | exact Fit.dead _ | exact Fit.v _ | exact .i fun _ _ => rfl | exact Fit.ip | exact .p rfl | exact .q rfl | exact .s rfl | exact .y rfl | refine Fit.al ?_ | refine Fit.fl ?_ ?_ | refine And.intro ?_ ?_))
          · have h6 : s.odd c = false := h6
            (conv => arg 1; whnf); (repeat' (first | (refine brt (by assumption) ?_; (conv => arg 1; whnf)) | (refine brf (by assumption) ?_; (conv => arg 1; whnf)) | fail))
            refine br (fun h7 => ?_) (fun h7 => ?_)
            · have h7 : hasF b c.fl = true := h7
              (conv => arg 1; whnf); (repeat' (first | (refine brt (by assumption) ?_; (conv => arg 1; whnf)) | (refine brf (by assumption) ?_; (conv => arg 1; whnf)) | fail))
              refine done (by unfold pressL; rw [h, h4, h5, h6, h7]; rfl) (by repeat' (first | exact True.intro | exact Fit.dead _ | exact Fit.v _ | exact .i fun _ _ => rfl | exact Fit.ip | exact .p rfl | exact .q rfl | exact .s rfl | exact .y rfl | refine Fit.al ?_ | refine Fit.fl ?_ ?_ | refine And.intro ?_ ?_))
            · have h7 : hasF b c.fl = false := h7
              (conv => arg 1; whnf); (repeat' (first | (refine brt (by assumption) ?_; (conv => arg 1; whnf)) | (refine brf (by assumption) ?_; (conv => arg 1; whnf)) | fail))
              refine loopIn (fun k : Nat => k ≤ l.length ∧ ∀ j, j < k → alike c (l.getD j eC.dflt) = false) (fun k => frm 19 [(0, .s 1 4 0 l.length), (1, .f (.func 49) [] [.p 2 0]), (7, i64 l.length), (8, i64 k)]) (fun k => [.lit (bookC s 1 l.length b), tabl eC l, .lit [i64 c.fl, i64 c.ca, i64 0, boo c.up]]) (fun k => l.length - k) 0 [0, 1, 2] ⟨Nat.zero_le _, fun j hj => absurd hj (Nat.not_lt_zero j)⟩ (by decide) ?_ ?_ rfl fun k hi => ?_
              · repeat' (first | exact True.intro | exact Fit.dead _ | exact Fit.v _ | exact .i fun _ _ => rfl | exact Fit.ip | exact .p rfl | exact .q rfl | exact .s rfl | exact .y rfl | refine Fit.al ?_ | refine Fit.fl ?_ ?_ | refine And.intro ?_ ?_)
              · exact ⟨⟨_, rfl, .lit (by repeat' (first | exact True.intro | exact Fit.dead _ | exact Fit.v _ | exact .i fun _ _ => rfl | exact Fit.ip | exact .p rfl | exact .q rfl | exact .s rfl | exact .y rfl | refine Fit.al ?_ | refine Fit.fl ?_ ?_ | refine And.intro ?_ ?_))⟩, ⟨_, rfl, .tab fun _ _ => rfl⟩, ⟨_, rfl, .lit (by repeat' (first | exact True.intro | exact Fit.dead _ | exact Fit.v _ | exact .i fun _ _ => rfl | exact Fit.ip | exact .p rfl | exact .q rfl | exact .s rfl | exact .y rfl | refine Fit.al ?_ | refine Fit.fl ?_ ?_ | refine And.intro ?_ ?_))⟩, trivial⟩
              · obtain ⟨hk, hno⟩ := hi
                (conv => arg 1; whnf)
                refine br (fun h8 => ?_) (fun h8 => ?_)
                · have hlt : k < l.length := by have := of_decide_eq_true h8; omega
                  have e1 : decide (0 + (k : Int).toNat < l.length) = true := decide_eq_true (by omega)
                  have ek : 0 + (k : Int).toNat = k := by omega
                  (conv => arg 1; whnf); (repeat' (first | (refine brt (by assumption) ?_; (conv => arg 1; whnf)) | (refine brf (by assumption) ?_; (conv => arg 1; whnf)) | fail))
                  refine br (fun h9 => ?_) (fun h9 => ?_)
                  · have h9 : alike c (l.getD (0 + (k : Int).toNat) eC.dflt) = true := h9
                    rw [ek] at h9
                    (conv => arg 1; whnf); (repeat' (first | (refine brt (by assumption) ?_; (conv => arg 1; whnf)) | (refine brf (by assumption) ?_; (conv => arg 1; whnf)) | fail))
                    refine leaveRet ?_
                    show tr _
                    have e2 : decide ((0 : Int) ≤ (k : Int)) = true := decide_eq_true (by omega)
                    (conv => arg 1; whnf); (repeat' (first | (refine brt (by assumption) ?_; (conv => arg 1; whnf)) | (refine brf (by assumption) ?_; (conv => arg 1; whnf)) | fail))
                    have hany : l.any (alike c) = true := List.any_eq_true.2 ⟨l.getD k eC.dflt, by rw [List.getD_eq_getElem?_getD, List.getElem?_eq_getElem hlt]; exact List.getElem_mem hlt, h9⟩
                    refine done (by unfold pressL; rw [h, h4, h5, h6, h7, hany]; rfl) (by repeat' (first | exact True.intro | exact Fit.dead _ | exact Fit.v _ | exact .i fun _ _ => rfl | exact Fit.ip | exact .p rfl | exact .q rfl | exact .s rfl | exact .y rfl | refine Fit.al ?_ | refine Fit.fl ?_ ?_ | refine And.intro ?_ ?_))
                  · have h9 : alike c (l.getD (0 + (k : Int).toNat) eC.dflt) = false := h9
                    rw [ek] at h9
                    (conv => arg 1; whnf); (repeat' (first | (refine brt (by assumption) ?_; (conv => arg 1; whnf)) | (refine brf (by assumption) ?_; (conv => arg 1; whnf)) | fail))
                    refine again (k + 1) [0, 1, 2] ⟨hlt, fun j hj => ?_⟩ (by show l.length - (k + 1) < l.length - k; omega) (by decide) ?_ ?_ rfl
                    · rcases Nat.lt_or_ge j k with hj' | hj'
                      · exact hno j hj'
                      · have : j = k := by omega
                        rw [this]; exact h9
                    · repeat' (first | exact True.intro | exact Fit.dead _ | exact .p rfl | exact .s rfl | exact Fit.v _ | refine Fit.fl ?_ ?_ | refine And.intro ?_ ?_)
                      exact Fit.v' (congrArg (Value.int .i64) (i64w _ (by omega) (by omega)).symm)
                    · exact ⟨⟨_, rfl, .lit (by repeat' (first | exact True.intro | exact Fit.dead _ | exact Fit.v _ | exact .i fun _ _ => rfl | exact Fit.ip | exact .p rfl | exact .q rfl | exact .s rfl | exact .y rfl | refine Fit.al ?_ | refine Fit.fl ?_ ?_ | refine And.intro ?_ ?_))⟩, ⟨_, rfl, .tab fun _ _ => rfl⟩, ⟨_, rfl, .lit (by repeat' (first | exact True.intro | exact Fit.dead _ | exact Fit.v _ | exact .i fun _ _ => rfl | exact Fit.ip | exact .p rfl | exact .q rfl | exact .s rfl | exact .y rfl | refine Fit.al ?_ | refine Fit.fl ?_ ?_ | refine And.intro ?_ ?_))⟩, trivial⟩
                · (conv => arg 1; whnf); (repeat' (first | (refine brt (by assumption) ?_; (conv => arg 1; whnf)) | (refine brf (by assumption) ?_; (conv => arg 1; whnf)) | fail))
                  refine leave ?_
                  show tr _
                  have hkl : k = l.length := by have := of_decide_eq_false h8; omega
                  have hany : l.any (alike c) = false := by
                    rw [Bool.eq_false_iff]
                    intro hh
                    obtain ⟨x, hx, hy⟩ := List.any_eq_true.1 hh
                    obtain ⟨j, hj, rfl⟩ := List.getElem_of_mem hx
                    have := hno j (by omega)
                    rw [List.getD_eq_getElem?_getD, List.getElem?_eq_getElem hj] at this
                    rw [Option.getD_some] at this
                    rw [this] at hy; cases hy
                  (conv => arg 1; whnf); (repeat' (first | (refine brt (by assumption) ?_; (conv => arg 1; whnf)) | (refine brf (by assumption) ?_; (conv => arg 1; whnf)) | fail))
                  refine br (fun h9 => ?_) (fun h9 => ?_)
                  · (conv => arg 1; whnf); (repeat' (first | (refine brt (by assumption) ?_; (conv => arg 1; whnf)) | (refine brf (by assumption) ?_; (conv => arg 1; whnf)) | fail))
                    refine done (by unfold pressL; rw [h, h4, h5, h6, h7, hany]; simp only [cond]; rw [show decide (128 ≤ l.length) = true from decide_eq_true (by have := of_decide_eq_true h9; omega)]) (by repeat' (first | exact True.intro | exact Fit.dead _ | exact Fit.v _ | exact .i fun _ _ => rfl | exact Fit.ip | exact .p rfl | exact .q rfl | exact .s rfl | exact .y rfl | refine Fit.al ?_ | refine Fit.fl ?_ ?_ | refine And.intro ?_ ?_))
                  · have hlen : l.length < 128 := by have := of_decide_eq_false h9; omega
                    have e3 : ((0 + l.length).ble l.length && ((0 + 1).ble 1 && (l.length + 1).ble 4294967295)) = true := by simp [Nat.ble_eq]; omega
                    have e : pressL s l b c = (0, l ++ [{ c with ag := 0 }]) := by unfold pressL; rw [h, h4, h5, h6, h7, hany]; simp only [cond]; rw [show decide (128 ≤ l.length) = false from decide_eq_false (by omega)]
                    rw [e]
                    (conv => arg 1; whnf); (repeat' (first | (refine brt (by assumption) ?_; (conv => arg 1; whnf)) | (refine brf (by assumption) ?_; (conv => arg 1; whnf)) | fail))
                    refine finS [0, 1, 4] (by decide) (.v _) ⟨⟨_, rfl, .lit ?_⟩, ⟨_, rfl, .gone _⟩, ⟨_, rfl, fit_tab (e := eC) (RowIs.joined eC (RowIs.all eC (RowIs.row eC l)) (l2 := [{ c with ag := 0 }]) ⟨rfl, fun j hj => ?_⟩)⟩, trivial⟩ rfl
                    · repeat' (first | exact True.intro | exact Fit.v _ | exact fit_s rfl rfl (by rw [List.length_append]; rfl) | refine And.intro ?_ ?_)
                    · match j, hj with
                      | 0, _ => rfl
end Go.Proofs.Ytbilkjolopdeiaa.E
