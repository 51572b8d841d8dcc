/- The contracts of the document's book of calls. -/
import Derived.Test.YtbilkjolopdeiaaCallsLawsE
import Derived.Test.YtbilkjolopdeiaaCallsTwiceE
namespace Go.Proofs.Ytbilkjolopdeiaa.E
open Go NumMath
set_option linter.unusedSimpArgs false
set_option linter.unusedVariables false
set_option maxRecDepth 100000
set_option maxHeartbeats 4000000

/-- The document's book's cells: the site, the calls, a truth for each floor. -/
abbrev rbookC (s : Site) (r n : Nat) (bl : List Bool) : List AV := [i64 s.fl, i64 s.ca, i64 s.st, i64 s.sp, i64 s.so, i64 s.op, i64 s.wa, i64 s.cl, i64 s.nu, i64 s.ag, i64 s.si, i64 s.bu, i64 s.pe, .s r 4 0 n] ++ bl.map boo
def rdBools : List AV → Option (List Bool)
  | [] => some []
  | .v (.bool b) :: l => match rdBools l with | some r => some (b :: r) | none => none
  | _ => none
theorem rdBools_some : ∀ {l : List AV} {r : List Bool}, rdBools l = some r → l = r.map boo
  | [], r, h => by obtain rfl := Option.some.inj h; rfl
  | x :: l, r, h => by
    unfold rdBools at h
    split at h
    · rename_i e; cases e
    · rename_i b l' e
      obtain ⟨rfl, rfl⟩ := List.cons.inj e
      split at h
      · rename_i r' hr
        obtain rfl := Option.some.inj h
        rw [rdBools_some hr]; rfl
      · cases h
    · cases h
theorem rdBools_map : ∀ r : List Bool, rdBools (r.map boo) = some r
  | [] => rfl
  | b :: r => by simp only [List.map_cons, rdBools, rdBools_map r]
def rdRBook : List AV → Option (Site × Nat × Nat × List AV)
  | .v (.int .i64 a) :: .v (.int .i64 b) :: .v (.int .i64 c) :: .v (.int .i64 d) :: .v (.int .i64 e) :: .v (.int .i64 f) :: .v (.int .i64 g) :: .v (.int .i64 h) :: .v (.int .i64 i) :: .v (.int .i64 j) :: .v (.int .i64 k) :: .v (.int .i64 l) :: .v (.int .i64 m) :: .s r 4 0 n :: x => some (⟨a, b, c, d, e, f, g, h, i, j, k, l, m⟩, r, n, x)
  | _ => none
theorem rdRBook_some {cs : List AV} {p : Site × Nat × Nat × List AV} (h : rdRBook cs = some p) : cs = [i64 p.1.fl, i64 p.1.ca, i64 p.1.st, i64 p.1.sp, i64 p.1.so, i64 p.1.op, i64 p.1.wa, i64 p.1.cl, i64 p.1.nu, i64 p.1.ag, i64 p.1.si, i64 p.1.bu, i64 p.1.pe, .s p.2.1 4 0 p.2.2.1] ++ p.2.2.2 := by
  unfold rdRBook at h
  split at h
  · obtain rfl := Option.some.inj h; rfl
  · cases h
def bools (x : List AV) : List Bool := match rdBools x with | some r => r | none => []
def boolsOk (x : List AV) : Bool := match rdBools x with | some r => Nat.beq r.length 64 | none => false
/-- What is done with the document's book. -/
def onRBook (F : Site → List Call → List Bool → Option (Bool × AV × (List AV → Blk → St))) : St → Option (Bool × AV × St)
  | [.lit cs, .tab 4 m g] => match rdRBook cs with
    | some (s, 1, n, x) => match F s (rows eC n g) (bools x) with
      | some (c, u, τ) => some (c && (Nat.beq n m && (isRow eC n 4 g && (Nat.ble n 128 && boolsOk x))), u, τ cs (.tab 4 m g))
      | none => none
    | _ => none
  | _ => none
theorem onRBook_some {F : Site → List Call → List Bool → Option (Bool × AV × (List AV → Blk → St))} {σ σ' : St} {u : AV} (h : onRBook F σ = some (true, u, σ')) : ∃ s l bl g τ, σ = [.lit (rbookC s 1 l.length bl), .tab 4 l.length g] ∧ RowIs eC l.length g l ∧ l.length ≤ 128 ∧ bl.length = 64 ∧ F s l bl = some (true, u, τ) ∧ σ' = τ (rbookC s 1 l.length bl) (.tab 4 l.length g) := by
  unfold onRBook at h
  split at h
  case h_2 => cases h
  rename_i cs m g
  split at h
  case h_2 => cases h
  rename_i s n x hb
  split at h
  case h_2 => cases h
  rename_i c u' τ hF
  simp only [Option.some.injEq, Prod.mk.injEq, Bool.and_eq_true] at h
  obtain ⟨⟨hc, h1, h2, h3, h4⟩, rfl, rfl⟩ := h
  subst hc
  obtain rfl := Nat.eq_of_beq_eq_true h1
  obtain ⟨_, hr, _⟩ := isRow_get h2
  have hcs := rdRBook_some hb
  simp only at hcs
  unfold boolsOk at h4
  unfold bools at hF
  split at h4
  case h_2 => cases h4
  rename_i bl hbl
  rw [hbl] at hF
  rw [rdBools_some hbl] at hcs
  subst hcs
  generalize rows eC n g = l at hr hF
  have hl := hr.len
  subst hl
  exact ⟨s, l, bl, g, τ, rfl, hr, Nat.le_of_ble_eq_true h3, Nat.eq_of_beq_eq_true h4, hF, rfl⟩
/-- A truth of the book. -/
theorem ldBar {s : Site} {r n : Nat} {bl : List Bool} {σ : St} {l : Nat} {f : Int} (h : σ[l]? = some (.lit (rbookC s r n bl))) (hb : bl.length = 64) (hf : 0 ≤ f ∧ f < 64) : aLoad tt 4 (.p l (0 + 14 + f.toNat * 1)) σ = some (true, boo (bl.getD f.toNat false)) := by
  have e1 : look tt 4 = some te4 := rfl
  have e2 : (rbookC s r n bl)[0 + 14 + f.toNat * 1]? = some (boo (bl.getD f.toNat false)) := by
    rw [List.getElem?_append_right (by simp)]
    simp only [List.length_cons, List.length_nil]
    rw [show 0 + 14 + f.toNat * 1 - (0 + 1 + 1 + 1 + 1 + 1 + 1 + 1 + 1 + 1 + 1 + 1 + 1 + 1 + 1) = f.toNat by omega, List.getElem?_map, List.getD_eq_getElem?_getD, List.getElem?_eq_getElem (by omega)]
    rfl
  unfold aLoad
  rw [e1]
  simp only [h]
  simp only [ldCells, show isAggD te4.td = false from rfl, e2]
  rfl
/-- A truth of the book, written. -/
theorem stBar {s : Site} {r n : Nat} {bl : List Bool} {σ : St} {l : Nat} {f : Int} {v : Bool} (h : σ[l]? = some (.lit (rbookC s r n bl))) (hb : bl.length = 64) (hf : 0 ≤ f ∧ f < 64) : aStore tt 4 (.p l (0 + 14 + f.toNat * 1)) (boo v) σ = some (true, σ.set l (.lit (rbookC s r n (bl.set f.toNat v)))) := by
  have e1 : look tt 4 = some te4 := rfl
  have e2 : putCells (rbookC s r n bl) (0 + 14 + f.toNat * 1) [boo v] = rbookC s r n (bl.set f.toNat v) := by
    apply List.ext_getElem?
    intro k
    rw [putCells_get (by simp [hb]; omega)]
    simp only [List.length_singleton]
    by_cases hk : k = 14 + f.toNat
    · subst hk
      rw [if_pos (by omega), show 14 + f.toNat - (0 + 14 + f.toNat * 1) = 0 by omega, List.getElem?_append_right (by simp)]
      simp only [List.length_cons, List.length_nil]
      rw [show 14 + f.toNat - (0 + 1 + 1 + 1 + 1 + 1 + 1 + 1 + 1 + 1 + 1 + 1 + 1 + 1 + 1) = f.toNat by omega, List.getElem?_map, List.getElem?_set_self (by omega)]
      rfl
    · rw [if_neg (by omega)]
      rcases Nat.lt_or_ge k 14 with g | g
      · rw [List.getElem?_append_left (by simpa using g), List.getElem?_append_left (by simpa using g)]
      · rw [List.getElem?_append_right (by simpa using g), List.getElem?_append_right (by simpa using g)]
        simp only [List.length_cons, List.length_nil]
        rw [List.getElem?_map, List.getElem?_map, List.getElem?_set_ne (by omega)]
  have e3 : Nat.ble (0 + 14 + f.toNat * 1 + [boo v].length) (rbookC s r n bl).length = true := Nat.ble_eq_true_of_le (by simp [hb]; omega)
  unfold aStore
  rw [e1]
  simp only [cellsOf, scal, h, e3, e2, show Nat.beq [boo v].length te4.size = true from rfl, show [boo v].all okCell = true from rfl]
theorem stBarOp {fr : List AV} {σ : St} {x y : Operand} {l : Nat} {s : Site} {r n : Nat} {bl : List Bool} {f : Int} {v : Bool} (hx : ev fr x = .p l (0 + 14 + f.toNat * 1)) (hy : ev fr y = boo v) (h : σ[l]? = some (.lit (rbookC s r n bl))) (hb : bl.length = 64) (hf : 0 ≤ f ∧ f < 64) :
    aOp tt (.store 4 x y) fr σ = some (true, .dead, σ.set l (.lit (rbookC s r n (bl.set f.toNat v)))) := by
  simp only [aOp, hx, hy, stBar h hb hf]
theorem ldBarOp {fr : List AV} {σ : St} {x : Operand} {l : Nat} {s : Site} {r n : Nat} {bl : List Bool} {f : Int} (hx : ev fr x = .p l (0 + 14 + f.toNat * 1)) (h : σ[l]? = some (.lit (rbookC s r n bl))) (hb : bl.length = 64) (hf : 0 ≤ f ∧ f < 64) :
    aOp tt (.load 4 x) fr σ = some (true, boo (bl.getD f.toNat false), σ) := by
  simp only [aOp, hx, ldBar h hb hf, keep2]
theorem fitBools {ρ : List Nat} {σ : St} : ∀ l : List Bool, FitL ρ σ (l.map boo) (l.map boo)
  | [] => trivial
  | b :: l => ⟨.v _, fitBools l⟩
theorem fitRBook {ρ : List Nat} {σ : St} {s : Site} {r r' n n' : Nat} {bl : List Bool} (h : ρ[r]? = some r') (hn : n = n') : FitL ρ σ (rbookC s r n bl) (rbookC s r' n' bl) :=
  ⟨.v _, .v _, .v _, .v _, .v _, .v _, .v _, .v _, .v _, .v _, .v _, .v _, .v _, fit_s h rfl hn, fitBools bl⟩
theorem sameRBook {l : List Call} {g : Nat → List AV} (hr : RowIs eC l.length g l) {cs : List AV} : SameS [.lit cs, tabl eC l] [.lit cs, .tab 4 l.length g] := .cons (.inl rfl) (.cons (.tab fun k hk => (hr.get k hk).symm) .nil)
/-! ### Floors that are barred -/
def rbarL (s : Site) (bl : List Bool) (f : Int) (on : Bool) : Int × List Bool := cond (s.there f) (0, bl.set f.toNat on) (2, bl)
def rbarG : List AV → St → Option (Bool × AV × St)
  | [.p 0 0, .v (.int .i64 f), .v (.bool on)], σ => onRBook (fun s l bl => some (decide (s.fl ≤ 64), i64 (rbarL s bl f on).1, fun _ B => [.lit (rbookC s 1 l.length (rbarL s bl f on).2), B])) σ
  | _, _ => none
theorem rbar_ok : CtrOk Try.prog 31 (localCtr rbarG) :=
  localCtr_can X0_ok Try.func31 (by decide) rfl fun args σ u σ' h => by
    unfold rbarG at h
    split at h
    case h_2 => cases h
    rename_i f on
    obtain ⟨s, l, bl, g, τ, rfl, hr, hl, hbl, hF, rfl⟩ := onRBook_some h
    simp only [Option.some.injEq, Prod.mk.injEq] at hF
    obtain ⟨h64, rfl, rfl⟩ := hF
    have h64 := of_decide_eq_true h64
    clear h
    refine ⟨_, sameRBook hr, ?_⟩
    unfold runF
    (conv => arg 1; whnf)
    refine br (fun h1 => ?_) (fun h1 => ?_)
    · have e : rbarL s bl f on = (2, bl) := by unfold rbarL Site.there; rw [decide_eq_false (by have := of_decide_eq_true h1; omega : ¬ 0 ≤ f)]; rfl
      rw [e]
      (conv => arg 1; whnf); (repeat' (first | (refine brt (by assumption) ?_; (conv => arg 1; whnf)) | (refine brf (by assumption) ?_; (conv => arg 1; whnf)) | fail))
      exact finS [0, 1] (by decide) (.v _) ⟨⟨_, rfl, .lit (fitRBook rfl rfl)⟩, ⟨_, rfl, .tab hr.get⟩, trivial⟩ rfl
    · (conv => arg 1; whnf); (repeat' (first | (refine brt (by assumption) ?_; (conv => arg 1; whnf)) | (refine brf (by assumption) ?_; (conv => arg 1; whnf)) | fail))
      refine br (fun h2 => ?_) (fun h2 => ?_)
      · have e : rbarL s bl f on = (2, bl) := by unfold rbarL Site.there; rw [decide_eq_true (by have := of_decide_eq_false h1; omega : 0 ≤ f), decide_eq_false (by have := of_decide_eq_true h2; omega : ¬ f < s.fl)]; rfl
        rw [e]
        (conv => arg 1; whnf); (repeat' (first | (refine brt (by assumption) ?_; (conv => arg 1; whnf)) | (refine brf (by assumption) ?_; (conv => arg 1; whnf)) | fail))
        exact finS [0, 1] (by decide) (.v _) ⟨⟨_, rfl, .lit (fitRBook rfl rfl)⟩, ⟨_, rfl, .tab hr.get⟩, trivial⟩ rfl
      · have f0 : 0 ≤ f := by have := of_decide_eq_false h1; omega
        have f1 : f < s.fl := by have := of_decide_eq_false h2; omega
        have e : rbarL s bl f on = (0, bl.set f.toNat on) := by unfold rbarL Site.there; rw [decide_eq_true f0, decide_eq_true f1]; rfl
        have c1 : (decide (0 ≤ f) && decide (f < ((64 : Nat) : Int))) = true := by simp only [Bool.and_eq_true, decide_eq_true_eq]; omega
        rw [e]
        (conv => arg 1; whnf); (repeat' (first | (refine brt (by assumption) ?_; (conv => arg 1; whnf)) | (refine brf (by assumption) ?_; (conv => arg 1; whnf)) | fail))
        conv in (aOp _ _ _ _) => tactic => exact stBarOp (f := f) (v := on) rfl rfl rfl hbl ⟨f0, by omega⟩
        (conv => arg 1; whnf); (repeat' (first | (refine brt (by assumption) ?_; (conv => arg 1; whnf)) | (refine brf (by assumption) ?_; (conv => arg 1; whnf)) | fail))
        exact finS [0, 1] (by decide) (.v _) ⟨⟨_, rfl, .lit (fitRBook rfl rfl)⟩, ⟨_, rfl, .tab hr.get⟩, trivial⟩ rfl

/-! ### Calls that are pressed -/
def pressF (s : Site) (l : List Call) (bar : Int → Bool) (c : Call) : Int × List Call :=
  cond (!(s.there c.fl)) (2, l) (cond (decide (c.ca < -1)) (2, l) (cond (decide (s.ca ≤ c.ca)) (2, l) (cond (s.odd c) (1, l) (cond (bar c.fl) (8, l) (cond (l.any (alike c)) (0, l) (cond (decide (128 ≤ l.length)) (4, l) (0, l ++ [{ c with ag := 0 }])))))))
theorem pressF_eq (s : Site) (l : List Call) (b : Int) (c : Call) : pressF s l (hasF b) c = pressL s l b c := rfl
def rpressG : List AV → St → Option (Bool × AV × St)
  | [.p 0 0, u], σ => match dCall.dec u with
    | some c => onRBook (fun s l bl => some (decide (s.fl ≤ 64), i64 (pressF s l (fun f => bl.getD f.toNat false) c).1, fun _ _ => [.lit (rbookC s 2 (pressF s l (fun f => bl.getD f.toNat false) c).2.length bl), .gone, tabl eC (pressF s l (fun f => bl.getD f.toNat false) c).2])) σ
    | none => none
  | _, _ => none
def XRP : Cx := X0.join 200003
theorem XRP_ok : CxOk Try.prog XRP := X0_ok.join 200003 rfl
theorem rpress_ok : CtrOk Try.prog 30 (localCtr rpressG) :=
  localCtr_can XRP_ok Try.func30 (by decide) rfl fun args σ u σ' h => by
    unfold rpressG at h
    split at h
    case h_2 => cases h
    rename_i u0
    split at h
    case h_2 => cases h
    rename_i c hc
    obtain rfl := dCall.ok hc
    obtain ⟨s, l, bl, g, τ, rfl, hr, hl, hbl, hF, rfl⟩ := onRBook_some h
    simp only [Option.some.injEq, Prod.mk.injEq] at hF
    obtain ⟨h64, rfl, rfl⟩ := hF
    have h64 := of_decide_eq_true h64
    clear h hc
    refine ⟨_, sameRBook hr, ?_⟩
    obtain ⟨bar, hbar⟩ : ∃ bar : Int → Bool, bar = fun f => bl.getD f.toNat false := ⟨_, rfl⟩
    rw [← hbar]
    have done : ∀ {k : Int} {τ : St}, pressF s l bar c = (k, l) → tr (Fin 2 (i64 (pressF s l bar c).1) [.lit (rbookC s 2 (pressF s l bar c).2.length bl), .gone, tabl eC (pressF s l bar c).2] (i64 k) (.lit (rbookC s 1 l.length bl) :: tabl eC l :: τ)) := by
      intro k τ e
      rw [e]
      exact finD [0, 1, 1] rfl (.v _) ⟨⟨_, rfl, .lit (fitRBook rfl rfl)⟩, ⟨_, rfl, .gone _⟩, ⟨_, rfl, .tab fun _ _ => rfl⟩, trivial⟩ rfl
    have p1 : (c.fl < 0 ∨ s.fl ≤ c.fl ∨ c.ca < -1 ∨ s.ca ≤ c.ca) → pressF s l bar c = (2, l) := fun h => by
      unfold pressF Site.there
      cases h1 : decide (0 ≤ c.fl) with
      | false => rfl
      | true =>
      cases h2 : decide (c.fl < s.fl) with
      | false => rfl
      | true =>
      cases h3 : decide (c.ca < -1) with
      | true => rfl
      | false =>
      have h1 := of_decide_eq_true h1
      have h2 := of_decide_eq_true h2
      have h3 := of_decide_eq_false h3
      rw [decide_eq_true (by omega : s.ca ≤ c.ca)]; rfl
    unfold runF
    (conv => arg 1; whnf)
    refine br (fun h1 => ?_) (fun h1 => ?_)
    · (conv => arg 1; whnf); (repeat' (first | (refine brt (by assumption) ?_; (conv => arg 1; whnf)) | (refine brf (by assumption) ?_; (conv => arg 1; whnf)) | fail))
      exact done (p1 (.inl (of_decide_eq_true h1)))
    · (conv => arg 1; whnf); (repeat' (first | (refine brt (by assumption) ?_; (conv => arg 1; whnf)) | (refine brf (by assumption) ?_; (conv => arg 1; whnf)) | fail))
      refine br (fun h2 => ?_) (fun h2 => ?_)
      · (conv => arg 1; whnf); (repeat' (first | (refine brt (by assumption) ?_; (conv => arg 1; whnf)) | (refine brf (by assumption) ?_; (conv => arg 1; whnf)) | fail))
        exact done (p1 (.inr (.inl (of_decide_eq_true h2))))
      · (conv => arg 1; whnf); (repeat' (first | (refine brt (by assumption) ?_; (conv => arg 1; whnf)) | (refine brf (by assumption) ?_; (conv => arg 1; whnf)) | fail))
        refine br (fun h3 => ?_) (fun h3 => ?_)
        · (conv => arg 1; whnf); (repeat' (first | (refine brt (by assumption) ?_; (conv => arg 1; whnf)) | (refine brf (by assumption) ?_; (conv => arg 1; whnf)) | fail))
          exact done (p1 (.inr (.inr (.inl (of_decide_eq_true h3)))))
        · (conv => arg 1; whnf); (repeat' (first | (refine brt (by assumption) ?_; (conv => arg 1; whnf)) | (refine brf (by assumption) ?_; (conv => arg 1; whnf)) | fail))
          refine br (fun h4 => ?_) (fun h4 => ?_)
          · (conv => arg 1; whnf); (repeat' (first | (refine brt (by assumption) ?_; (conv => arg 1; whnf)) | (refine brf (by assumption) ?_; (conv => arg 1; whnf)) | fail))
            exact done (p1 (.inr (.inr (.inr (of_decide_eq_true h4)))))
          · have f0 : 0 ≤ c.fl := by have := of_decide_eq_false h1; omega
            have f1 : c.fl < s.fl := by have := of_decide_eq_false h2; omega
            have f2 : -1 ≤ c.ca := by have := of_decide_eq_false h3; omega
            have f3 : c.ca < s.ca := by have := of_decide_eq_false h4; omega
            have pe : pressF s l bar c = cond (s.odd c) (1, l) (cond (bar c.fl) (8, l) (cond (l.any (alike c)) (0, l) (cond (decide (128 ≤ l.length)) (4, l) (0, l ++ [{ c with ag := 0 }])))) := by
              unfold pressF Site.there
              rw [decide_eq_true f0, decide_eq_true f1, decide_eq_false (by omega : ¬ c.ca < -1), decide_eq_false (by omega : ¬ s.ca ≤ c.ca)]; rfl
            (conv => arg 1; whnf); (repeat' (first | (refine brt (by assumption) ?_; (conv => arg 1; whnf)) | (refine brf (by assumption) ?_; (conv => arg 1; whnf)) | fail))
            refine joinIn (fun _ : Unit => True) (fun _ => frm 141 [(0, .p 0 0), (3, .p 2 0), (76, boo (s.odd c))]) (fun _ => [.lit (rbookC s 1 l.length bl), tabl eC l, .lit c.cs]) ?_ (fun _ _ => ?_)
            · have fin : ∀ (f : List AV), FitL [0, 1, 2] [.lit (rbookC s 1 l.length bl), tabl eC l, .lit c.cs] (frm 141 [(0, .p 0 0), (3, .p 2 0), (76, boo (s.odd c))]) f → tr (some (∃ y : Unit, True ∧ Cov 2 (frm 141 [(0, .p 0 0), (3, .p 2 0), (76, boo (s.odd c))]) [.lit (rbookC s 1 l.length bl), tabl eC l, .lit c.cs] f [.lit (rbookC s 1 l.length bl), tabl eC l, .lit c.cs])) := fun f hf =>
                joinTo () [0, 1, 2] trivial (by decide) hf ⟨⟨_, rfl, .lit (fitRBook rfl rfl)⟩, ⟨_, rfl, .tab fun _ _ => rfl⟩, ⟨_, rfl, .lit (by repeat' (first | exact True.intro | exact Fit.dead _ | exact Fit.v _ | exact .i fun _ _ => rfl | exact Fit.ip | exact .p rfl | exact .q rfl | exact .s rfl | exact .y rfl | refine Fit.al ?_ | refine Fit.fl ?_ ?_ | refine And.intro ?_ ?_))⟩, trivial⟩ rfl
              have odd1 : s.odd c = cond (!(decide (c.ca = -1))) c.up (cond c.up (decide (c.fl = IntKind.i64.wrap (s.fl - 1))) (decide (c.fl = 0))) := rfl
              by_cases g1 : 0 ≤ c.ca
              · have q1 : decide (0 ≤ c.ca) = true := decide_eq_true g1
                have q2 : decide (c.ca < 0) = false := decide_eq_false (by omega)
                rw [decide_eq_false (by omega : ¬ c.ca = -1)] at odd1
                cases hup : c.up with
                | true =>
                  rw [hup] at odd1
                  (conv => arg 1; whnf); (repeat' (first | (refine brt (by assumption) ?_; (conv => arg 1; whnf)) | (refine brf (by assumption) ?_; (conv => arg 1; whnf)) | fail))
                  refine fin _ ?_
                  rw [odd1]
                  repeat' (first | exact True.intro | exact Fit.dead _ | exact .p rfl | exact Fit.v _ | exact Fit.v' (congrArg Value.bool hup.symm) | refine And.intro ?_ ?_)
                | false =>
                  rw [hup] at odd1
                  (conv => arg 1; whnf); (repeat' (first | (refine brt (by assumption) ?_; (conv => arg 1; whnf)) | (refine brf (by assumption) ?_; (conv => arg 1; whnf)) | fail))
                  refine fin _ ?_
                  rw [odd1]
                  repeat' (first | exact True.intro | exact Fit.dead _ | exact .p rfl | exact Fit.v _ | exact Fit.v' (congrArg Value.bool q2.symm) | refine And.intro ?_ ?_)
              · have q1 : decide (0 ≤ c.ca) = false := decide_eq_false g1
                have q2 : decide (c.ca < 0) = true := decide_eq_true (by omega)
                rw [decide_eq_true (by omega : c.ca = -1)] at odd1
                cases hup : c.up with
                | true =>
                  rw [hup] at odd1
                  have hn : (!c.up) = false := by rw [hup]; rfl
                  (conv => arg 1; whnf); (repeat' (first | (refine brt (by assumption) ?_; (conv => arg 1; whnf)) | (refine brf (by assumption) ?_; (conv => arg 1; whnf)) | fail))
                  refine br (fun h5 => ?_) (fun h5 => ?_)
                  · (conv => arg 1; whnf); (repeat' (first | (refine brt (by assumption) ?_; (conv => arg 1; whnf)) | (refine brf (by assumption) ?_; (conv => arg 1; whnf)) | fail))
                    refine fin _ ?_
                    rw [odd1, h5]
                    repeat' (first | exact True.intro | exact Fit.dead _ | exact .p rfl | exact Fit.v _ | exact Fit.v' (congrArg Value.bool h5.symm) | refine And.intro ?_ ?_)
                  · (conv => arg 1; whnf); (repeat' (first | (refine brt (by assumption) ?_; (conv => arg 1; whnf)) | (refine brf (by assumption) ?_; (conv => arg 1; whnf)) | fail))
                    refine fin _ ?_
                    rw [odd1, h5]
                    repeat' (first | exact True.intro | exact Fit.dead _ | exact .p rfl | exact Fit.v _ | exact Fit.v' (congrArg Value.bool hn.symm) | refine And.intro ?_ ?_)
                | false =>
                  rw [hup] at odd1
                  have hn : (!c.up) = true := by rw [hup]; rfl
                  (conv => arg 1; whnf); (repeat' (first | (refine brt (by assumption) ?_; (conv => arg 1; whnf)) | (refine brf (by assumption) ?_; (conv => arg 1; whnf)) | fail))
                  refine fin _ ?_
                  rw [odd1]
                  repeat' (first | exact True.intro | exact Fit.dead _ | exact .p rfl | exact Fit.v _ | refine And.intro ?_ ?_)
            · (conv => arg 1; whnf)
              refine br (fun h5 => ?_) (fun h5 => ?_)
              · have h5 : s.odd c = true := h5
                (conv => arg 1; whnf); (repeat' (first | (refine brt (by assumption) ?_; (conv => arg 1; whnf)) | (refine brf (by assumption) ?_; (conv => arg 1; whnf)) | fail))
                exact done (by rw [pe, h5]; rfl)
              · have h5 : s.odd c = false := h5
                have c1 : (decide (0 ≤ c.fl) && decide (c.fl < ((64 : Nat) : Int))) = true := by simp only [Bool.and_eq_true, decide_eq_true_eq]; omega
                have e14 : (fun f => bl.getD f.toNat false) c.fl = bl.getD c.fl.toNat false := rfl
                (conv => arg 1; whnf); (repeat' (first | (refine brt (by assumption) ?_; (conv => arg 1; whnf)) | (refine brf (by assumption) ?_; (conv => arg 1; whnf)) | fail))
                conv in (aOp _ _ _ _) => tactic => exact ldBarOp (f := c.fl) rfl rfl hbl ⟨f0, by omega⟩
                (conv => arg 1; whnf); (repeat' (first | (refine brt (by assumption) ?_; (conv => arg 1; whnf)) | (refine brf (by assumption) ?_; (conv => arg 1; whnf)) | fail))
                refine br (fun h6 => ?_) (fun h6 => ?_)
                · have h6 : bar c.fl = true := by rw [hbar]; exact h6
                  (conv => arg 1; whnf); (repeat' (first | (refine brt (by assumption) ?_; (conv => arg 1; whnf)) | (refine brf (by assumption) ?_; (conv => arg 1; whnf)) | fail))
                  exact done (by rw [pe, h5, h6]; rfl)
                · have h6 : bar c.fl = false := by rw [hbar]; exact h6
                  (conv => arg 1; whnf); (repeat' (first | (refine brt (by assumption) ?_; (conv => arg 1; whnf)) | (refine brf (by assumption) ?_; (conv => arg 1; whnf)) | fail))
                  refine loopIn (fun k : Nat => k ≤ l.length ∧ ∀ j, j < k → alike c (l.getD j eC.dflt) = false) (fun k => frm 141 [(0, .p 0 0), (3, .p 2 0), (5, i64 k)]) (fun _ => [.lit (rbookC s 1 l.length bl), tabl eC l, .lit c.cs]) (fun k => l.length - k) 0 [0, 1, 2] ⟨Nat.zero_le _, fun j hj => absurd hj (Nat.not_lt_zero j)⟩ (by decide) ?_ ?_ rfl fun k hi => ?_
                  · repeat' (first | exact True.intro | exact Fit.dead _ | exact Fit.v _ | exact .i fun _ _ => rfl | exact Fit.ip | exact .p rfl | exact .q rfl | exact .s rfl | exact .y rfl | refine Fit.al ?_ | refine Fit.fl ?_ ?_ | refine And.intro ?_ ?_)
                  · exact ⟨⟨_, rfl, .lit (fitRBook rfl rfl)⟩, ⟨_, rfl, .tab fun _ _ => rfl⟩, ⟨_, rfl, .lit (by repeat' (first | exact True.intro | exact Fit.dead _ | exact Fit.v _ | exact .i fun _ _ => rfl | exact Fit.ip | exact .p rfl | exact .q rfl | exact .s rfl | exact .y rfl | refine Fit.al ?_ | refine Fit.fl ?_ ?_ | refine And.intro ?_ ?_))⟩, trivial⟩
                  · obtain ⟨hk, hno⟩ := hi
                    (conv => arg 1; whnf)
                    refine br (fun h8 => ?_) (fun h8 => ?_)
                    · have hlt : k < l.length := by have := of_decide_eq_true h8; omega
                      have e1 : decide (0 + (k : Int).toNat < l.length) = true := decide_eq_true (by omega)
                      have e2 : (decide (0 ≤ (k : Int)) && decide ((k : Int) < (l.length : Int))) = true := by simp only [Bool.and_eq_true, decide_eq_true_eq]; omega
                      have ek : 0 + (k : Int).toNat = k := by omega
                      have yes : alike c (l.getD k eC.dflt) = true → l.any (alike c) = true := fun h9 => List.any_eq_true.2 ⟨l.getD k eC.dflt, by rw [List.getD_eq_getElem?_getD, List.getElem?_eq_getElem hlt]; exact List.getElem_mem hlt, h9⟩
                      have nx : alike c (l.getD k eC.dflt) = false → ∀ (f : List AV) (τ : St), FitL [0, 1, 2] (.lit (rbookC s 1 l.length bl) :: tabl eC l :: .lit c.cs :: τ) (frm 141 [(0, .p 0 0), (3, .p 2 0), (5, i64 ((k + 1 : Nat) : Int))]) f → ∀ {K : Ex → List AV → St → Prop}, tr (some (After 2 (fun k : Nat => k ≤ l.length ∧ ∀ j, j < k → alike c (l.getD j eC.dflt) = false) (fun k => frm 141 [(0, .p 0 0), (3, .p 2 0), (5, i64 k)]) (fun _ => [.lit (rbookC s 1 l.length bl), tabl eC l, .lit c.cs]) (fun k => l.length - k) k K .normal f (.lit (rbookC s 1 l.length bl) :: tabl eC l :: .lit c.cs :: τ))) := fun h9 f τ hf K =>
                        again (k + 1) [0, 1, 2] ⟨hlt, fun j hj => by
                          rcases Nat.lt_or_ge j k with hj' | hj'
                          · exact hno j hj'
                          · have : j = k := by omega
                            rw [this]; exact h9⟩ (by show l.length - (k + 1) < l.length - k; omega) (by decide) hf ⟨⟨_, rfl, .lit (fitRBook rfl rfl)⟩, ⟨_, rfl, .tab fun _ _ => rfl⟩, ⟨_, rfl, .lit (by repeat' (first | exact True.intro | exact Fit.dead _ | exact Fit.v _ | exact .i fun _ _ => rfl | exact Fit.ip | exact .p rfl | exact .q rfl | exact .s rfl | exact .y rfl | refine Fit.al ?_ | refine Fit.fl ?_ ?_ | refine And.intro ?_ ?_))⟩, trivial⟩ rfl
                      have al : alike c (l.getD k eC.dflt) = (decide ((l.getD k eC.dflt).fl = c.fl) && (decide ((l.getD k eC.dflt).ca = c.ca) && decide ((l.getD k eC.dflt).up = c.up))) := rfl
                      (conv => arg 1; whnf); (repeat' (first | (refine brt (by assumption) ?_; (conv => arg 1; whnf)) | (refine brf (by assumption) ?_; (conv => arg 1; whnf)) | fail))
                      refine br (fun h9 => ?_) (fun h9 => ?_)
                      · (conv => arg 1; whnf); (repeat' (first | (refine brt (by assumption) ?_; (conv => arg 1; whnf)) | (refine brf (by assumption) ?_; (conv => arg 1; whnf)) | fail))
                        refine br (fun h10 => ?_) (fun h10 => ?_)
                        · (conv => arg 1; whnf); (repeat' (first | (refine brt (by assumption) ?_; (conv => arg 1; whnf)) | (refine brf (by assumption) ?_; (conv => arg 1; whnf)) | fail))
                          refine br (fun h11 => ?_) (fun h11 => ?_)
                          · (conv => arg 1; whnf); (repeat' (first | (refine brt (by assumption) ?_; (conv => arg 1; whnf)) | (refine brf (by assumption) ?_; (conv => arg 1; whnf)) | fail))
                            refine leaveRet ?_
                            show tr _
                            (conv => arg 1; whnf); (repeat' (first | (refine brt (by assumption) ?_; (conv => arg 1; whnf)) | (refine brf (by assumption) ?_; (conv => arg 1; whnf)) | fail))
                            rw [ek] at h9 h10 h11
                            have h12 : decide ((l.getD k eC.dflt).up = c.up) = true := by simpa using h11
                            exact done (by rw [pe, h5, h6, yes (by rw [al, h9, h10, h12]; rfl)]; rfl)
                          · (conv => arg 1; whnf); (repeat' (first | (refine brt (by assumption) ?_; (conv => arg 1; whnf)) | (refine brf (by assumption) ?_; (conv => arg 1; whnf)) | fail))
                            rw [ek] at h9 h10 h11
                            have h12 : decide ((l.getD k eC.dflt).up = c.up) = false := by simpa using h11
                            refine nx (by rw [al, h9, h10, h12]; rfl) _ _ ?_
                            repeat' (first | exact True.intro | exact Fit.dead _ | exact .p rfl | exact Fit.v' (congrArg (Value.int .i64) (nxt k (by omega)).symm) | refine And.intro ?_ ?_)
                        · (conv => arg 1; whnf); (repeat' (first | (refine brt (by assumption) ?_; (conv => arg 1; whnf)) | (refine brf (by assumption) ?_; (conv => arg 1; whnf)) | fail))
                          rw [ek] at h9 h10
                          refine nx (by rw [al, h9, h10]; rfl) _ _ ?_
                          repeat' (first | exact True.intro | exact Fit.dead _ | exact .p rfl | exact Fit.v' (congrArg (Value.int .i64) (nxt k (by omega)).symm) | refine And.intro ?_ ?_)
                      · (conv => arg 1; whnf); (repeat' (first | (refine brt (by assumption) ?_; (conv => arg 1; whnf)) | (refine brf (by assumption) ?_; (conv => arg 1; whnf)) | fail))
                        rw [ek] at h9
                        refine nx (by rw [al, h9]; rfl) _ _ ?_
                        repeat' (first | exact True.intro | exact Fit.dead _ | exact .p rfl | exact Fit.v' (congrArg (Value.int .i64) (nxt k (by omega)).symm) | refine And.intro ?_ ?_)
                    · have hkl : k = l.length := by have := of_decide_eq_false h8; omega
                      have hany : l.any (alike c) = false := by
                        rw [Bool.eq_false_iff]
                        intro hh
                        obtain ⟨x, hx, hy⟩ := List.any_eq_true.1 hh
                        obtain ⟨j, hj, rfl⟩ := List.getElem_of_mem hx
                        have := hno j (by omega)
                        rw [List.getD_eq_getElem?_getD, List.getElem?_eq_getElem hj, Option.getD_some] at this
                        rw [this] at hy; cases hy
                      (conv => arg 1; whnf); (repeat' (first | (refine brt (by assumption) ?_; (conv => arg 1; whnf)) | (refine brf (by assumption) ?_; (conv => arg 1; whnf)) | fail))
                      refine leave ?_
                      show tr _
                      (conv => arg 1; whnf); (repeat' (first | (refine brt (by assumption) ?_; (conv => arg 1; whnf)) | (refine brf (by assumption) ?_; (conv => arg 1; whnf)) | fail))
                      refine br (fun h9 => ?_) (fun h9 => ?_)
                      · (conv => arg 1; whnf); (repeat' (first | (refine brt (by assumption) ?_; (conv => arg 1; whnf)) | (refine brf (by assumption) ?_; (conv => arg 1; whnf)) | fail))
                        exact done (by rw [pe, h5, h6, hany]; simp only [cond]; rw [decide_eq_true (by have := of_decide_eq_true h9; omega : 128 ≤ l.length)])
                      · have hlen : l.length < 128 := by have := of_decide_eq_false h9; omega
                        have e3 : ((0 + l.length).ble l.length && ((0 + 1).ble 1 && (l.length + 1).ble 4294967295)) = true := by simp [Nat.ble_eq]; omega
                        have e : pressF s l bar c = (0, l ++ [{ c with ag := 0 }]) := by rw [pe, h5, h6, hany]; simp only [cond]; rw [decide_eq_false (by omega : ¬ 128 ≤ l.length)]
                        rw [e]
                        (conv => arg 1; whnf); (repeat' (first | (refine brt (by assumption) ?_; (conv => arg 1; whnf)) | (refine brf (by assumption) ?_; (conv => arg 1; whnf)) | fail))
                        refine finS [0, 1, 4] (by decide) (.v _) ⟨⟨_, rfl, .lit (fitRBook rfl (by rw [List.length_append]; rfl))⟩, ⟨_, rfl, .gone _⟩, ⟨_, rfl, fit_tab (e := eC) (RowIs.joined eC (RowIs.all eC (RowIs.row eC l)) (l2 := [{ c with ag := 0 }]) ⟨rfl, fun j hj => by
                          match j, hj with
                          | 0, _ => rfl⟩)⟩, trivial⟩ rfl
end Go.Proofs.Ytbilkjolopdeiaa.E
