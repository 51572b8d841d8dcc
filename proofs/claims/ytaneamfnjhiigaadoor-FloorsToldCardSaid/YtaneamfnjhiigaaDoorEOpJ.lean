/- The engine, part 12: slices that are cut, or made. -/
import Derived.Test.YtaneamfnjhiigaaDoorEOpI
namespace Go.Proofs.YtaneamfnjhiigaaDoor.E
open Go
set_option linter.unusedSimpArgs false
set_option linter.unusedVariables false

/-- A bound of a slice expression. -/
def bnd (d : Int) : Option AV → Option Int
  | none => some d
  | some (.v (.int _ i)) => some i
  | _ => none

/-- A part of a slice, or of a text. -/
def aSlice (tt : List TE) (t : Nat) (x : AV) (lo hi mx : Option AV) : Option (Bool × AV) :=
  match look tt t with
  | none => none
  | some e => match e.td, x with
    | .slice el, .s l sz o n => match look tt el with
      | none => none
      | some ee => match bnd 0 lo, bnd n hi, bnd n mx, Nat.beq sz ee.size with
        | some a, some b, some m, true => some (decide (0 ≤ a) && (decide (a ≤ b) && (decide (b ≤ m) && decide (m ≤ n))), .s l sz (o + a.toNat) (b.toNat - a.toNat))
        | _, _, _, _ => none
    | .slice el, .i sz n get => match look tt el with
      | none => none
      | some ee => match bnd 0 lo, bnd n hi, bnd n mx, Nat.beq sz ee.size with
        | some a, some b, some m, true => some (decide (0 ≤ a) && (decide (a ≤ b) && (decide (b ≤ m) && decide (m ≤ n))), .i sz (b.toNat - a.toNat) fun k => get (a.toNat + k))
        | _, _, _, _ => none
    | .slice el, .z => match look tt el with
      | none => none
      | some _ => match bnd 0 lo, bnd (0 : Nat) hi, bnd (0 : Nat) mx with
        | some a, some b, some m => some (decide (0 ≤ a) && (decide (a ≤ b) && (decide (b ≤ m) && decide (m ≤ (0 : Nat)))), .z)
        | _, _, _ => none
    | .slice el, .v (.slice none 0 0) => match look tt el with
      | none => none
      | some _ => match bnd 0 lo, bnd (0 : Nat) hi, bnd (0 : Nat) mx with
        | some a, some b, some m => some (decide (0 ≤ a) && (decide (a ≤ b) && (decide (b ≤ m) && decide (m ≤ (0 : Nat)))), .v (.slice none 0 0))
        | _, _, _ => none
    | .string, .v (.string s) => match bnd 0 lo, bnd s.size hi, mx with
      | some a, some b, none => some (decide (0 ≤ a) && (decide (a ≤ b) && decide (b ≤ s.size)), .v (.string (s.extract a.toNat b.toNat)))
      | _, _, _ => none
    | _, _ => none

/-- What bounds come to. -/
theorem run_bounds {P : Program} {W : World} {isS : Bool} {R : Nat → Prop} {φ : Phi} {n cap : Nat} {lo hi mx : Option AV} {lv hv mv : Option Value} {d : Int}
    (hl : ∀ u, lo = some u → ∃ x, lv = some x ∧ VR R φ W u x) (hl' : lo = none → lv = none) (hh : ∀ u, hi = some u → ∃ x, hv = some x ∧ VR R φ W u x) (hh' : hi = none → hv = none)
    (hm : ∀ u, mx = some u → ∃ x, mv = some x ∧ VR R φ W u x) (hm' : mx = none → mv = none) (hmh : mx ≠ none → hi ≠ none) (hn : n ≤ cap)
    {a b m : Int} (ha : bnd 0 lo = some a) (hb : bnd n hi = some b) (hmx : bnd d mx = some m) (h0 : 0 ≤ a) (h1 : a ≤ b) (h2 : b ≤ cap) (h3 : mx ≠ none → b ≤ m ∧ m ≤ cap) :
    (Instr.sliceBounds isS n cap lv hv mv).run P W = .ok (a.toNat, b.toNat, if mx = none then cap else m.toNat) W := by
  have one : ∀ {d' : Int} {lo : Option AV} {lv : Option Value} {a : Int} {y : Nat} {code : BoundsCode}, (∀ u, lo = some u → ∃ x, lv = some x ∧ VR R φ W u x) → bnd d' lo = some a → 0 ≤ a → a ≤ y → ∀ x, lv = some x → lo ≠ none → (Instr.sliceBound x y code).run P W = .ok a.toNat W := by
    intro d' lo lv a y code hl ha h0 h1 x hx hne
    cases lo with
    | none => exact absurd rfl hne
    | some u =>
      obtain ⟨x', hx', hv⟩ := hl u rfl
      rw [hx] at hx'; obtain rfl := Option.some.inj hx'
      cases u with
      | v z => cases z with
        | int k i =>
          obtain rfl := Option.some.inj ha
          rw [hv.val]
          unfold Instr.sliceBound
          simp only [Sem.run_bind, asIntOf_int, Result.andThen_ok, h0, h1, and_self, if_true, Sem.run_pure]
        | _ => simp [bnd] at ha
      | _ => simp [bnd] at ha
  unfold Instr.sliceBounds
  cases hmn : mx with
  | none =>
    rw [hm' hmn]
    simp only [Sem.run_bind, Sem.run_pure, Result.andThen_ok, Option.isSome_none]
    cases hhi : hi with
    | none =>
      rw [hh' hhi]
      rw [hhi] at hb
      obtain rfl := Option.some.inj hb
      simp only [Sem.run_bind, Sem.run_pure, Result.andThen_ok]
      cases hlo : lo with
      | none =>
        rw [hl' hlo]
        rw [hlo] at ha
        obtain rfl := Option.some.inj ha
        simp
      | some u =>
        obtain ⟨x, hx, _⟩ := hl u hlo
        rw [hx]
        simp only [Sem.run_bind]
        rw [one hl ha h0 (y := n) (by omega) x hx (by rw [hlo]; simp)]
        simp
    | some u =>
      obtain ⟨x, hx, _⟩ := hh u hhi
      rw [hx]
      simp only [Sem.run_bind]
      rw [one hh hb (by omega) (y := cap) (by omega) x hx (by rw [hhi]; simp)]
      simp only [Result.andThen_ok]
      cases hlo : lo with
      | none =>
        rw [hl' hlo]
        rw [hlo] at ha
        obtain rfl := Option.some.inj ha
        simp
      | some u' =>
        obtain ⟨x', hx', _⟩ := hl u' hlo
        rw [hx']
        simp only [Sem.run_bind]
        rw [one hl ha h0 (y := b.toNat) (by omega) x' hx' (by rw [hlo]; simp)]
        simp
  | some um =>
    obtain ⟨xm, hxm, _⟩ := hm um hmn
    obtain ⟨g1, g2⟩ := h3 (by rw [hmn]; simp)
    rw [hxm]
    simp only [Sem.run_bind]
    rw [one hm hmx (by omega) (y := cap) (by omega) xm hxm (by rw [hmn]; simp)]
    simp only [Result.andThen_ok]
    cases hhi : hi with
    | none => exact absurd hhi (hmh (by rw [hmn]; simp))
    | some u =>
      obtain ⟨x, hx, _⟩ := hh u hhi
      rw [hx]
      simp only [Sem.run_bind]
      rw [one hh hb (by omega) (y := m.toNat) (by omega) x hx (by rw [hhi]; simp)]
      simp only [Result.andThen_ok]
      cases hlo : lo with
      | none =>
        rw [hl' hlo]
        rw [hlo] at ha
        obtain rfl := Option.some.inj ha
        simp
      | some u' =>
        obtain ⟨x', hx', _⟩ := hl u' hlo
        rw [hx']
        simp only [Sem.run_bind]
        rw [one hl ha h0 (y := b.toNat) (by omega) x' hx' (by rw [hlo]; simp)]
        simp

theorem aSlice_ok {P : Program} {tt : List TE} (ht : TTok P tt) {t : Nat} {R : Nat → Prop} {φ : Phi} {W : World} {x : AV} {v : Value} (hx : VR R φ W x v) {lo hi mx : Option AV} {lv hv mv : Option Value}
    (hl : ∀ u, lo = some u → ∃ x, lv = some x ∧ VR R φ W u x) (hl' : lo = none → lv = none) (hh : ∀ u, hi = some u → ∃ x, hv = some x ∧ VR R φ W u x) (hh' : hi = none → hv = none)
    (hm : ∀ u, mx = some u → ∃ x, mv = some x ∧ VR R φ W u x) (hm' : mx = none → mv = none) (hmh : mx ≠ none → hi ≠ none) {c : Bool} {u : AV} (ha : aSlice tt t x lo hi mx = some (c, u)) (hc : c = true) :
    ∃ y, (Instr.sliceAt t v lv hv mv).run P W = .ok y W ∧ VR R φ W u y := by
  unfold aSlice at ha
  cases he : look tt t with
  | none => simp [he] at ha
  | some e =>
    simp only [he] at ha
    have hlk := (look_ok ht he).1
    split at ha
    · rename_i el l sz o n htd
      rw [htd] at hlk
      have hund : P.underlying t = some (.slice el) := hlk
      cases hee : look tt el with
      | none => simp [hee] at ha
      | some ee =>
        simp only [hee] at ha
        split at ha
        case h_2 => cases ha
        rename_i a b m e1 e2 e3 e4
        obtain ⟨rfl, rfl⟩ := Prod.mk.inj (Option.some.inj ha)
        have e4 := Nat.eq_of_beq_eq_true e4
        simp only [Bool.and_eq_true, decide_eq_true_eq] at hc
        obtain ⟨c0, c1, c2, c3⟩ := hc
        have run : ∀ (A : Option Addr) (cap : Nat), n ≤ cap → (Instr.sliceAt t (.slice A n cap) lv hv mv).run P W = .ok (.slice (if (if mx = none then cap else m.toNat) = a.toNat then A else A.map (·.add (a.toNat * sz))) (b.toNat - a.toNat) ((if mx = none then cap else m.toNat) - a.toNat)) W := by
          intro A cap hcap
          have hb := run_bounds (P := P) (isS := true) (cap := cap) hl hl' hh hh' hm hm' hmh hcap e1 e2 e3 c0 c1 (by omega) (fun _ => ⟨c2, by omega⟩)
          unfold Instr.sliceAt Instr.slice
          simp only [Sem.run_bind, run_und hund, Result.andThen_ok, hb, run_sizeOf ht hee, e4, Sem.run_pure]
        cases hx with
        | imm hi => cases hi
        | nil hφ =>
          have : a = 0 ∧ b = 0 := by omega
          obtain ⟨rfl, rfl⟩ := this
          refine ⟨_, run _ 0 (Nat.le_refl _), ?_⟩
          have : (if mx = none then 0 else m.toNat) = 0 := by split <;> omega
          rw [this]
          exact .nil hφ
        | z hφ =>
          have : a = 0 ∧ b = 0 := by omega
          obtain ⟨rfl, rfl⟩ := this
          refine ⟨_, run _ 0 (Nat.le_refl _), ?_⟩
          have : (if mx = none then 0 else m.toNat) = 0 := by split <;> omega
          rw [this]
          exact .z hφ
        | s hφ hn hr =>
          rename_i b0 f0 cap
          refine ⟨_, run _ cap hn, ?_⟩
          by_cases hq : (if mx = none then cap else m.toNat) = a.toNat
          · rw [if_pos hq, hq, show b.toNat - a.toNat = 0 by split at hq <;> omega, Nat.sub_self]
            exact .z hφ
          · rw [if_neg hq]
            simp only [Option.map_some, add_none]
            have hle : b.toNat - a.toNat ≤ (if mx = none then cap else m.toNat) - a.toNat := by split <;> omega
            have := VR.s (R := R) (W := W) (l := l) (sz := sz) (o := o + a.toNat) (φ := φ) hφ hle (by
              refine Nat.le_trans ?_ hr
              refine Nat.add_le_add_left (Nat.mul_le_mul_right _ ?_) _
              split <;> omega)
            rw [Nat.add_mul, ← Nat.add_assoc] at this
            exact this
    · rename_i el sz n get htd
      rw [htd] at hlk
      have hund : P.underlying t = some (.slice el) := hlk
      cases hee : look tt el with
      | none => simp [hee] at ha
      | some ee =>
        simp only [hee] at ha
        split at ha
        case h_2 => cases ha
        rename_i a b m e1 e2 e3 e4
        obtain ⟨rfl, rfl⟩ := Prod.mk.inj (Option.some.inj ha)
        have e4 := Nat.eq_of_beq_eq_true e4
        simp only [Bool.and_eq_true, decide_eq_true_eq] at hc
        obtain ⟨c0, c1, c2, c3⟩ := hc
        have run : ∀ (A : Option Addr) (cap : Nat), n ≤ cap → (Instr.sliceAt t (.slice A n cap) lv hv mv).run P W = .ok (.slice (if (if mx = none then cap else m.toNat) = a.toNat then A else A.map (·.add (a.toNat * sz))) (b.toNat - a.toNat) ((if mx = none then cap else m.toNat) - a.toNat)) W := by
          intro A cap hcap
          have hb := run_bounds (P := P) (isS := true) (cap := cap) hl hl' hh hh' hm hm' hmh hcap e1 e2 e3 c0 c1 (by omega) (fun _ => ⟨c2, by omega⟩)
          unfold Instr.sliceAt Instr.slice
          simp only [Sem.run_bind, run_und hund, Result.andThen_ok, hb, run_sizeOf ht hee, e4, Sem.run_pure]
        cases hx with
        | imm hi =>
          cases hi with
          | nil =>
            have : a = 0 ∧ b = 0 := by omega
            obtain ⟨rfl, rfl⟩ := this
            exact ⟨_, run _ _ (Nat.zero_le _), .imm (.nil _ _ _ _)⟩
          | i xs hb hn hlen hcell hv hsc hs0 hmm =>
            refine ⟨_, run _ _ hn, ?_⟩
            by_cases hz : b.toNat - a.toNat = 0
            · rw [hz]; exact .imm (.nil _ _ _ _)
            · rw [if_neg (by split <;> omega)]
              simp only [Option.map_some, add_none]
              refine .imm (.i (fun k j => xs (a.toNat + k) j) hb (by split <;> omega) (fun k hk => hlen _ (by omega)) (fun k j u hk hu => ?_) (fun k j u hk hu => hv _ _ _ (by omega) hu) (fun k j u hk hu => hsc _ _ _ (by omega) hu) hs0 (Nat.lt_of_le_of_lt (Nat.mul_le_mul_right _ (by omega)) hmm))
              have := hcell (a.toNat + k) j u (by omega) hu
              rw [Nat.add_mul] at this
              rw [← this]; congr 2; omega
    · rename_i el htd
      rw [htd] at hlk
      have hund : P.underlying t = some (.slice el) := hlk
      cases hee : look tt el with
      | none => simp [hee] at ha
      | some ee =>
        simp only [hee] at ha
        split at ha
        case h_2 => cases ha
        rename_i a b m e1 e2 e3
        obtain ⟨rfl, rfl⟩ := Prod.mk.inj (Option.some.inj ha)
        simp only [Bool.and_eq_true, decide_eq_true_eq] at hc
        obtain ⟨c0, c1, c2, c3⟩ := hc
        have ha0 : a = 0 := by omega
        have hb0 : b = 0 := by omega
        have hm0 : m = 0 := by omega
        subst ha0 hb0 hm0
        have run : ∀ (A : Option Addr), (Instr.sliceAt t (.slice A 0 0) lv hv mv).run P W = .ok (.slice A 0 0) W := by
          intro A
          have hb := run_bounds (P := P) (isS := true) (n := 0) (cap := 0) hl hl' hh hh' hm hm' hmh (Nat.le_refl _) e1 e2 e3 c0 c1 (by omega) (fun _ => ⟨c2, by omega⟩)
          unfold Instr.sliceAt Instr.slice
          simp only [Sem.run_bind, run_und hund, Result.andThen_ok, hb, run_sizeOf ht hee, Sem.run_pure]
          cases mx <;> simp
        cases hx with
        | imm hi => cases hi with
          | z A => exact ⟨_, run A, .imm (.z A)⟩
    · rename_i el htd
      rw [htd] at hlk
      have hund : P.underlying t = some (.slice el) := hlk
      cases hee : look tt el with
      | none => simp [hee] at ha
      | some ee =>
        simp only [hee] at ha
        split at ha
        case h_2 => cases ha
        rename_i a b m e1 e2 e3
        obtain ⟨rfl, rfl⟩ := Prod.mk.inj (Option.some.inj ha)
        simp only [Bool.and_eq_true, decide_eq_true_eq] at hc
        obtain ⟨c0, c1, c2, c3⟩ := hc
        have ha0 : a = 0 := by omega
        have hb0 : b = 0 := by omega
        have hm0 : m = 0 := by omega
        subst ha0 hb0 hm0
        have run : ∀ (A : Option Addr), (Instr.sliceAt t (.slice A 0 0) lv hv mv).run P W = .ok (.slice A 0 0) W := by
          intro A
          have hb := run_bounds (P := P) (isS := true) (n := 0) (cap := 0) hl hl' hh hh' hm hm' hmh (Nat.le_refl _) e1 e2 e3 c0 c1 (by omega) (fun _ => ⟨c2, by omega⟩)
          unfold Instr.sliceAt Instr.slice
          simp only [Sem.run_bind, run_und hund, Result.andThen_ok, hb, run_sizeOf ht hee, Sem.run_pure]
          cases mx <;> simp
        rw [hx.val]
        exact ⟨_, run none, .imm (.v _)⟩
    · rename_i s htd
      rw [htd] at hlk
      have hund : P.underlying t = some .string := hlk
      split at ha
      case h_2 => cases ha
      rename_i a b e1 e2
      obtain ⟨rfl, rfl⟩ := Prod.mk.inj (Option.some.inj ha)
      simp only [Bool.and_eq_true, decide_eq_true_eq] at hc
      obtain ⟨c0, c1, c2⟩ := hc
      rw [hx.val]
      have hb := run_bounds (P := P) (isS := false) (cap := s.size) (d := 0) hl hl' hh hh' hm hm' hmh (Nat.le_refl _) e1 e2 (m := 0) rfl c0 c1 c2 (fun h => absurd rfl h)
      rw [hm' rfl] at hb ⊢
      refine ⟨_, ?_, .imm (.v _)⟩
      unfold Instr.sliceAt Instr.slice
      simp only [Sem.run_bind, run_und hund, Result.andThen_ok, Option.isSome_none, Bool.false_eq_true, if_false, hb, Sem.run_pure]
    · cases ha

/-- A part of a slice that has no elements and no room. -/
def aSliceZ (tt : List TE) (t : Nat) (x : AV) : Option (Bool × AV) :=
  match look tt t with
  | none => none
  | some e => match e.td with
    | .slice el => match look tt el with
      | none => none
      | some _ => match x with
        | .s _ _ _ _ => some (true, .z)
        | .i _ _ _ => some (true, .z)
        | .z => some (true, .z)
        | .v (.slice none 0 0) => some (true, .z)
        | _ => none
    | _ => none
theorem aSliceZ_ok {P : Program} {tt : List TE} (ht : TTok P tt) {t : Nat} {R : Nat → Prop} {φ : Phi} {W : World} {x : AV} {v : Value} (hx : VR R φ W x v) {k k' : IntKind} {c : Bool} {u : AV} (ha : aSliceZ tt t x = some (c, u)) :
    ∃ y, (Instr.sliceAt t v none (some (.int k 0)) (some (.int k' 0))).run P W = .ok y W ∧ VR R φ W u y := by
  unfold aSliceZ at ha
  cases he : look tt t with
  | none => simp [he] at ha
  | some e =>
    simp only [he] at ha
    have hlk := (look_ok ht he).1
    split at ha
    case h_2 => cases ha
    rename_i el htd
    rw [htd] at hlk
    have hund : P.underlying t = some (.slice el) := hlk
    cases hee : look tt el with
    | none => simp [hee] at ha
    | some ee =>
      simp only [hee] at ha
      have run : ∀ (A : Option Addr) (n cap : Nat), n ≤ cap → (Instr.sliceAt t (.slice A n cap) none (some (.int k 0)) (some (.int k' 0))).run P W = .ok (.slice A 0 0) W := by
        intro A n cap hcap
        have hb := run_bounds (P := P) (W := W) (R := R) (φ := φ) (isS := true) (n := n) (cap := cap) (lo := none) (hi := some (.v (.int k 0))) (mx := some (.v (.int k' 0))) (lv := none) (hv := some (.int k 0)) (mv := some (.int k' 0)) (d := 0)
          (fun u h => by cases h) (fun _ => rfl) (fun u h => by cases h; exact ⟨_, rfl, .imm (.v _)⟩) (fun h => by cases h) (fun u h => by cases h; exact ⟨_, rfl, .imm (.v _)⟩) (fun h => by cases h) (fun _ h => by cases h) hcap
          (a := 0) (b := 0) (m := 0) rfl rfl rfl (by omega) (by omega) (by omega) (fun _ => ⟨by omega, by omega⟩)
        unfold Instr.sliceAt Instr.slice
        simp only [Sem.run_bind, run_und hund, Result.andThen_ok, hb, run_sizeOf ht hee, Sem.run_pure]
        simp
      split at ha
      · obtain ⟨rfl, rfl⟩ := Prod.mk.inj (Option.some.inj ha)
        cases hx with
        | imm hi => cases hi
        | nil => exact ⟨_, run _ _ _ (Nat.le_refl _), .imm (.z _)⟩
        | z => exact ⟨_, run _ _ _ (Nat.le_refl _), .imm (.z _)⟩
        | s h hn hr => exact ⟨_, run _ _ _ hn, .imm (.z _)⟩
      · obtain ⟨rfl, rfl⟩ := Prod.mk.inj (Option.some.inj ha)
        cases hx with
        | imm hi => cases hi with
          | nil => exact ⟨_, run _ _ _ (Nat.zero_le _), .imm (.z _)⟩
          | i xs hb hn => exact ⟨_, run _ _ _ hn, .imm (.z _)⟩
      · obtain ⟨rfl, rfl⟩ := Prod.mk.inj (Option.some.inj ha)
        cases hx with
        | imm hi => cases hi with
          | z => exact ⟨_, run _ _ _ (Nat.le_refl _), .imm (.z _)⟩
      · obtain ⟨rfl, rfl⟩ := Prod.mk.inj (Option.some.inj ha)
        rw [hx.val]
        exact ⟨_, run _ _ _ (Nat.le_refl _), .imm (.z _)⟩
      · cases ha
end Go.Proofs.YtaneamfnjhiigaaDoor.E
