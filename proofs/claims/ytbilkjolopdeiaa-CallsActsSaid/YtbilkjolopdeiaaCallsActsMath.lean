/- What the law CallsActs asks, without the program. -/
import Derived.Test.YtbilkjolopdeiaaCallsLampE
namespace Go.Proofs.Ytbilkjolopdeiaa.E
open Go NumMath
set_option linter.unusedSimpArgs false
set_option linter.unusedVariables false
theorem right_fl {s : Site} (h : s.right = true) : 2 ≤ s.fl ∧ s.fl ≤ 64 := by
  unfold Site.right inB at h
  simp only [Bool.and_eq_true, decide_eq_true_eq] at h
  omega
/-- The two books tell the same. -/
structure Both (k : Nat) (L : List Call) (b : Int) (bl : List Bool) : Prop where
  fine : Fine k L
  in64 : ∀ x ∈ L, 0 ≤ x.fl ∧ x.fl < 64 ∧ -1 ≤ x.ca
  len : bl.length = 64
  bar : ∀ f : Int, 0 ≤ f → f < 64 → hasF b f = bl.getD f.toNat false
theorem Both.nil : Both 0 [] 0 (List.replicate 64 false) := ⟨.nil 0, fun x h => by simp at h, by simp, fun f h0 h1 => by
  rw [has_zero, List.getD_eq_getElem?_getD, List.getElem?_replicate]
  split <;> rfl⟩
theorem Both.more {k : Nat} {L : List Call} {b : Int} {bl : List Bool} (h : Both k L b bl) : Both (k + 1) L b bl := ⟨h.fine.more, h.in64, h.len, h.bar⟩
theorem Both.press {k : Nat} {L : List Call} {b : Int} {bl : List Bool} (h : Both k L b bl) {s : Site} (hs : s.right = true) (c : Call) : pressF s L (fun f => bl.getD f.toNat false) c = pressL s L b c ∧ Both (k + 1) (pressL s L b c).2 b bl := by
  have hb := right_fl hs
  constructor
  · rw [← pressF_eq]
    unfold pressF
    cases h1 : s.there c.fl with
    | false => rfl
    | true =>
      unfold Site.there at h1
      have h2 : 0 ≤ c.fl ∧ c.fl < s.fl := by
        cases h3 : decide (0 ≤ c.fl) with
        | false => rw [h3] at h1; cases h1
        | true =>
          rw [h3] at h1
          exact ⟨of_decide_eq_true h3, of_decide_eq_true h1⟩
      simp only [h.bar c.fl h2.1 (by omega)]
  · refine ⟨(h.fine.press s b c).more, ?_, h.len, h.bar⟩
    rcases press_cases s L b c with ⟨_, e, _⟩ | ⟨_, _, e⟩ | ⟨hm, _, hl, e⟩
    · rw [e]; exact h.in64
    · rw [e]; exact h.in64
    · rw [e]
      intro x hx
      rcases List.mem_append.1 hx with hx | hx
      · exact h.in64 x hx
      · obtain rfl := List.mem_singleton.1 hx
        have h1 := hm.h1
        have h2 := of_decide_eq_false hm.h2
        unfold Site.there at h1
        show 0 ≤ c.fl ∧ c.fl < 64 ∧ -1 ≤ c.ca
        cases h3 : decide (0 ≤ c.fl) with
        | false => rw [h3] at h1; cases h1
        | true =>
          rw [h3] at h1
          simp only [cond, Bool.not_eq_false', decide_eq_true_eq] at h1
          have := of_decide_eq_true h3
          omega
theorem Both.barred {k : Nat} {L : List Call} {b : Int} {bl : List Bool} (h : Both k L b bl) {s : Site} (hs : s.right = true) (f : Int) (on : Bool) : (rbarL s bl f on).1 = (barL s b f on).1 ∧ Both (k + 1) L (barL s b f on).2 (rbarL s bl f on).2 := by
  have hb := right_fl hs
  unfold rbarL barL
  cases h1 : s.there f with
  | false => exact ⟨rfl, h.more⟩
  | true =>
    unfold Site.there at h1
    have h2 : 0 ≤ f ∧ f < s.fl := by
      cases h3 : decide (0 ≤ f) with
      | false => rw [h3] at h1; cases h1
      | true =>
        rw [h3] at h1
        exact ⟨of_decide_eq_true h3, of_decide_eq_true h1⟩
    refine ⟨rfl, h.fine.more, h.in64, by simp [h.len], fun g g0 g1 => ?_⟩
    have f1 : f < 64 := by omega
    show hasF (cond on (withF (woutF b f) f) (woutF b f)) g = (bl.set f.toNat on).getD g.toNat false
    have e : (bl.set f.toNat on).getD g.toNat false = if f = g then on else bl.getD g.toNat false := by
      rw [List.getD_eq_getElem?_getD, List.getElem?_set, List.getD_eq_getElem?_getD]
      by_cases e : f = g
      · subst e
        rw [if_pos rfl, if_pos (by rw [h.len]; omega), if_pos rfl]; rfl
      · rw [if_neg (by omega), if_neg e]
    rw [e, ← h.bar g g0 g1]
    cases on with
    | true =>
      show hasF (withF (woutF b f) f) g = _
      rw [has_with h2.1 f1 g0 g1, has_wout h2.1 f1 g0 g1]
      by_cases e : f = g
      · simp [e]
      · simp [e]
    | false =>
      show hasF (woutF b f) g = _
      rw [has_wout h2.1 f1 g0 g1]
      by_cases e : f = g
      · simp [e]
      · simp [e]
theorem Both.tick {k : Nat} {L : List Call} {b : Int} {bl : List Bool} (h : Both k L b bl) (hk : k ≤ 400) : L.map rtickC = L.map tickC ∧ Both (k + 1) (L.map tickC) b bl := by
  refine ⟨List.map_congr_left fun x hx => ?_, h.fine.tick (by omega), fun x hx => ?_, h.len, h.bar⟩
  · have ha := h.fine.age x hx
    have hg := tickC_ag (k := k) (by omega) ha
    unfold rtickC
    rw [decide_eq_true (by omega : x.ag < 1099511627776), i64w _ (by omega) (by omega), ← hg]
    rfl
  · obtain ⟨y, hy, rfl⟩ := List.mem_map.1 hx
    exact h.in64 y hy
theorem Both.serve {k : Nat} {L : List Call} {b : Int} {bl : List Bool} (h : Both k L b bl) (car fl : Int) (up dn : Bool) : L.filter (rservB car fl up dn) = L.filter (serveB car fl up dn) ∧ (L.filter fun c => !rservB car fl up dn c) = (L.filter fun c => !serveB car fl up dn c) ∧ Both (k + 1) (L.filter fun c => !serveB car fl up dn c) b bl := by
  have e : ∀ x ∈ L, rservB car fl up dn x = serveB car fl up dn x := fun x hx => by
    have hx' := (h.in64 x hx).2.2
    unfold rservB serveB
    by_cases h1 : x.fl = fl
    · by_cases h2 : x.ca = -1
      · simp [h1, h2]
      · have h3 : ¬ x.ca < 0 := by omega
        have h4 : (x.ca = car → 0 ≤ car) := by omega
        by_cases h5 : x.ca = car
        · simp only [h1, h2, h3, h5, decide_true, decide_false, Bool.true_and, Bool.false_and, Bool.not_false, Bool.or_false, cond, h4 h5]
          rw [decide_eq_false (by omega : ¬ car < 0), decide_eq_false (by omega : ¬ car = -1)]
          rfl
        · simp [h1, h2, h3, h5]
    · simp [h1]
  refine ⟨List.filter_congr e, List.filter_congr fun x hx => by rw [e x hx], (h.fine.filter _).more, fun x hx => h.in64 x (List.mem_filter.1 hx).1, h.len, h.bar⟩
/-! ### The lamps -/
def upB (f : Int) (x : Call) : Bool := (decide (x.fl = f) && decide (x.ca < 0)) && x.up
def dnB (f : Int) (x : Call) : Bool := (decide (x.fl = f) && decide (x.ca < 0)) && !x.up
def inC (car f : Int) (x : Call) : Bool := (decide (x.fl = f) && decide (0 ≤ x.ca)) && decide (x.ca = car)
theorem lamps_has {car f : Int} (f0 : 0 ≤ f) (f1 : f < 64) : ∀ (L : List Call) (a : Lamp), (∀ x ∈ L, 0 ≤ x.fl ∧ x.fl < 64 ∧ -1 ≤ x.ca) →
    hasF (L.foldl (lampS car) a).u f = (hasF a.u f || L.any (upB f)) ∧ hasF (L.foldl (lampS car) a).d f = (hasF a.d f || L.any (dnB f)) ∧ hasF (L.foldl (lampS car) a).n f = (hasF a.n f || L.any (inC car f))
  | [], a, _ => by simp
  | x :: L, a, h => by
    obtain ⟨h0, h1, h2⟩ := h x List.mem_cons_self
    have ih := lamps_has (car := car) f0 f1 L (lampS car a x) fun y hy => h y (List.mem_cons_of_mem _ hy)
    simp only [List.foldl_cons, List.any_cons]
    rw [ih.1, ih.2.1, ih.2.2]
    have e1 : hasF (lampS car a x).u f = (hasF a.u f || upB f x) ∧ hasF (lampS car a x).d f = (hasF a.d f || dnB f x) ∧ hasF (lampS car a x).n f = (hasF a.n f || inC car f x) := by
      unfold lampS upB dnB inC
      by_cases c1 : x.ca = -1
      · rw [decide_eq_true c1, decide_eq_true (by omega : x.ca < 0), decide_eq_false (by omega : ¬ 0 ≤ x.ca)]
        cases x.up with
        | true =>
          show hasF (withF a.u x.fl) f = _ ∧ hasF a.d f = _ ∧ hasF a.n f = _
          rw [has_with h0 h1 f0 f1]
          simp
        | false =>
          show hasF a.u f = _ ∧ hasF (withF a.d x.fl) f = _ ∧ hasF a.n f = _
          rw [has_with h0 h1 f0 f1]
          simp
      · rw [decide_eq_false c1, decide_eq_false (by omega : ¬ x.ca < 0), decide_eq_true (by omega : 0 ≤ x.ca)]
        by_cases c2 : x.ca = car
        · rw [decide_eq_true c2]
          show hasF a.u f = _ ∧ hasF a.d f = _ ∧ hasF (withF a.n x.fl) f = _
          rw [has_with h0 h1 f0 f1]
          simp
        · rw [decide_eq_false c2]
          show hasF a.u f = _ ∧ hasF a.d f = _ ∧ hasF a.n f = _
          simp
    rw [e1.1, e1.2.1, e1.2.2]
    simp only [Bool.or_assoc, and_self]
theorem lamp_eq {car f : Int} (f0 : 0 ≤ f) (f1 : f < 64) {L : List Call} (h : ∀ x ∈ L, 0 ≤ x.fl ∧ x.fl < 64 ∧ -1 ≤ x.ca) : hasF (lamps car L).u f = L.any (upB f) ∧ hasF (lamps car L).d f = L.any (dnB f) ∧ hasF (lamps car L).n f = L.any (inC car f) := by
  have := lamps_has (car := car) f0 f1 L ⟨0, 0, 0⟩ h
  simp only [has_zero, Bool.false_or] at this
  exact this
theorem any_take {P : Call → Bool} (l : List Call) (k : Nat) (h : k < l.length) : (l.take (k + 1)).any P = ((l.take k).any P || P (l.getD k eC.dflt)) := by
  rw [List.take_succ_eq_append_getElem h, List.any_append]
  simp [List.getD_eq_getElem?_getD, h]
end Go.Proofs.Ytbilkjolopdeiaa.E
