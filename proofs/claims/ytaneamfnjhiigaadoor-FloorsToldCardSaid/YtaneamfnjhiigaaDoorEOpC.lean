/- The engine, part 5: operations that only reckon. -/
import Derived.Test.YtaneamfnjhiigaaDoorEOpB
namespace Go.Proofs.YtaneamfnjhiigaaDoor.E
open Go
set_option linter.unusedSimpArgs false
set_option linter.unusedVariables false

theorem asIntOf_int {P : Program} {W : World} (k : IntKind) (n : Int) : (asIntOf (.int k n)).run P W = .ok (k, n) W := by simp [asIntOf]

theorem add_none (b o n : Nat) : (Addr.add ⟨b, o, none⟩ n) = ⟨b, o + n, none⟩ := by unfold Addr.add; split <;> simp_all

/-- The address of a struct's field. -/
def fieldOff (tt : List TE) (s fld : Nat) : Option Nat :=
  match look tt s with
  | some e => match e.td with
    | .struct flds => match flds[fld]? with
      | some (ty, o) => match look tt ty with
        | some ef => match Nat.beq ef.size 0 with
          | true => none
          | false => some o
        | none => none
      | none => none
    | _ => none
  | none => none
def aFieldAddr (tt : List TE) (s : Nat) (x : AV) (fld : Nat) : Option (Bool × AV) :=
  match fieldOff tt s fld with
  | none => none
  | some d => match x with
    | .p l off => some (true, .p l (off + d))
    | .q l sz i j => some (true, .q l sz i (j + d))
    | .ip cs j => some (true, .ip cs (j + d))
    | _ => none

theorem fieldOff_ok {P : Program} {tt : List TE} (h : TTok P tt) {s fld d : Nat} (hd : fieldOff tt s fld = some d) (W : World) (b o : Nat) :
    (Instr.fieldAt s (.pointer (some ⟨b, o, none⟩)) fld).run P W = .ok (.pointer (some ⟨b, o + d, none⟩)) W := by
  unfold fieldOff at hd
  cases he : look tt s with
  | none => simp [he] at hd
  | some e =>
    simp only [he] at hd
    cases hde : e.td with
    | struct flds =>
      simp only [hde] at hd
      have hlk := (look_ok h he).1
      rw [hde] at hlk
      obtain ⟨fs, hfs, hmap, _⟩ := hlk
      cases hf : flds[fld]? with
      | none => simp [hf] at hd
      | some p =>
        obtain ⟨ty, o'⟩ := p
        simp only [hf] at hd
        cases hef : look tt ty with
        | none => simp [hef] at hd
        | some ef =>
          simp only [hef] at hd
          cases hz : Nat.beq ef.size 0 with
          | true => simp [hz] at hd
          | false =>
            simp only [hz] at hd
            obtain rfl := Option.some.inj hd
            have hne : ef.size ≠ 0 := by intro h0; rw [h0] at hz; simp at hz
            rw [← hmap] at hf
            obtain ⟨f, hf', hff⟩ := getElem?_map_some hf
            obtain ⟨rfl, rfl⟩ := Prod.mk.inj hff
            have hf'' : fs[fld]? = some f := by rw [← hf']; simp
            unfold Instr.fieldAt
            simp only [Sem.run_bind, run_und hfs, Result.andThen, hf'', Instr.sureAddr, Sem.run_pure]
            unfold fieldPlace
            simp only [Sem.run_bind, run_sizeOf h hef, Result.andThen, hne, if_false, Sem.run_pure, add_none]
    | _ => simp [hde] at hd

theorem aFieldAddr_ok {P : Program} {tt : List TE} (h : TTok P tt) {s fld : Nat} {R : Nat → Prop} {φ : Phi} {W : World} {x : AV} {v : Value} (hx : VR R φ W x v) {c : Bool} {u : AV} (ha : aFieldAddr tt s x fld = some (c, u)) :
    ∃ y, (Instr.fieldAt s v fld).run P W = .ok y W ∧ VR R φ W u y := by
  unfold aFieldAddr at ha
  cases hd : fieldOff tt s fld with
  | none => simp [hd] at ha
  | some d =>
    simp only [hd] at ha
    cases x with
    | p l off =>
      obtain ⟨rfl, rfl⟩ := Prod.mk.inj (Option.some.inj ha)
      cases hx with
      | imm hi => cases hi
      | p hφ => exact ⟨_, fieldOff_ok h hd W _ _, by rw [Nat.add_assoc]; exact .p hφ⟩
    | q l sz i j =>
      obtain ⟨rfl, rfl⟩ := Prod.mk.inj (Option.some.inj ha)
      cases hx with
      | imm hi => cases hi
      | q hφ =>
        refine ⟨_, fieldOff_ok h hd W _ _, ?_⟩
        have := VR.q (R := R) (W := W) (sz := sz) (i := i) (j := j + d) hφ
        simpa [Nat.add_assoc] using this
    | ip cs j =>
      obtain ⟨rfl, rfl⟩ := Prod.mk.inj (Option.some.inj ha)
      cases hx with
      | imm hi => cases hi with
        | ip xs hb hc hv => exact ⟨_, fieldOff_ok h hd W _ _, by rw [Nat.add_assoc]; exact .imm (.ip xs hb hc hv)⟩
    | _ => simp at ha

/-- A value into which the kernel doesn't look. -/
noncomputable def sealed {α : Type} (x : α) : α := Classical.choose (⟨x, rfl⟩ : ∃ y, y = x)
theorem sealed_eq {α : Type} (x : α) : sealed x = x := Classical.choose_spec (⟨x, rfl⟩ : ∃ y, y = x)
/-- An element's address. -/
noncomputable def aIndexAddr (tt : List TE) (t : Nat) (x ix : AV) : Option (Bool × AV) :=
  match look tt t with
  | none => none
  | some e => match ix with
    | .v (.int _ i) =>
      match e.td with
      | .slice elem => match look tt elem with
        | none => none
        | some ee => match x with
          | .s l sz o n => match Nat.beq sz ee.size with
            | true => some (decide (0 ≤ i) && decide (i < n), .q l sz (o + i.toNat) 0)
            | false => none
          | .i sz n get => match Nat.beq sz ee.size with
            | true => some (decide (0 ≤ i) && decide (i < n), .ip (get i.toNat) 0)
            | false => none
          | _ => none
      | .array len elem => match look tt elem with
        | none => none
        | some ee => match x with
          | .p l off => match Nat.beq off 0 with
            | true => some (decide (0 ≤ i) && decide (i < len), .q l ee.size i.toNat 0)
            | false => some (decide (0 ≤ i) && decide (i < len), .p l (off + i.toNat * ee.size))
          | .ip cs off => some (sealed (decide (0 ≤ i) && decide (i < len)), .ip cs (sealed (off + i.toNat * ee.size)))
          | _ => none
      | _ => none
    | _ => none

theorem aIndexAddr_ok {P : Program} {tt : List TE} (h : TTok P tt) {t : Nat} {R : Nat → Prop} {φ : Phi} {W : World} {x ix : AV} {v w : Value} (hx : VR R φ W x v) (hix : VR R φ W ix w) {c : Bool} {u : AV}
    (ha : aIndexAddr tt t x ix = some (c, u)) (hc : c = true) : ∃ y, (Instr.indexAt t v w).run P W = .ok y W ∧ VR R φ W u y := by
  unfold aIndexAddr at ha
  cases he : look tt t with
  | none => simp [he] at ha
  | some e =>
    simp only [he] at ha
    cases ix with
    | v z =>
      cases z with
      | int k i =>
        simp only at ha
        cases hix with
        | imm hi =>
        cases hi with
        | v _ =>
        unfold Instr.indexAt
        have hlk := (look_ok h he).1
        cases hde : e.td with
        | slice elem =>
          rw [hde] at hlk
          have hund : ∀ W, (underlying t).run P W = .ok (.slice elem) W := run_und hlk
          simp only [Sem.run_bind, asIntOf_int, Result.andThen, hund]
          simp only [hde] at ha
          cases hee : look tt elem with
          | none => simp [hee] at ha
          | some ee =>
            simp only [hee] at ha
            cases x with
            | s l sz o n =>
              simp only at ha
              cases hz : Nat.beq sz ee.size with
              | false => simp [hz] at ha
              | true =>
                simp only [hz] at ha
                obtain ⟨rfl, rfl⟩ := Prod.mk.inj (Option.some.inj ha)
                have hz := Nat.eq_of_beq_eq_true hz
                simp only [Bool.and_eq_true, decide_eq_true_eq] at hc
                obtain ⟨c0, c1⟩ := hc
                cases hx with
                | imm hi => cases hi
                | nil hφ => omega
                | z hφ => omega
                | s hφ hn hr =>
                  rename_i b f cap
                  refine ⟨.pointer (some (Addr.add ⟨b, f + o * sz, none⟩ (i.toNat * ee.size))), by simp [c0, c1, run_sizeOf h hee, Result.andThen, hund, hde], ?_⟩
                  rw [add_none, ← hz]
                  have := VR.q (R := R) (W := W) (sz := sz) (i := o + i.toNat) (j := 0) hφ
                  simpa [Nat.add_mul, Nat.add_assoc] using this
            | i sz n get =>
              simp only at ha
              cases hz : Nat.beq sz ee.size with
              | false => simp [hz] at ha
              | true =>
                simp only [hz] at ha
                obtain ⟨rfl, rfl⟩ := Prod.mk.inj (Option.some.inj ha)
                have hz := Nat.eq_of_beq_eq_true hz
                simp only [Bool.and_eq_true, decide_eq_true_eq] at hc
                obtain ⟨c0, c1⟩ := hc
                have hlt : i.toNat < n := by omega
                cases hx with
                | imm hi =>
                  cases hi with
                  | nil => omega
                  | i xs hb hn hl hcell hv hsc hs hm =>
                    rename_i b f cap
                    refine ⟨.pointer (some (Addr.add ⟨b, f, none⟩ (i.toNat * ee.size))), by simp [c0, c1, run_sizeOf h hee, Result.andThen, hund, hde], ?_⟩
                    rw [add_none, ← hz]
                    refine .imm (.ip (o := f + i.toNat * sz) (j := 0) (fun k => xs i.toNat k) hb (fun k w hw => ?_) fun k w hw => hv _ _ _ hlt hw)
                    rw [Nat.add_assoc]; exact hcell _ _ _ hlt hw
            | _ => simp at ha
        | array len elem =>
          rw [hde] at hlk
          have hund : ∀ W, (underlying t).run P W = .ok (.array len elem) W := run_und hlk
          simp only [Sem.run_bind, asIntOf_int, Result.andThen, hund]
          simp only [hde] at ha
          cases hee : look tt elem with
          | none => simp [hee] at ha
          | some ee =>
            simp only [hee] at ha
            cases x with
            | ip cs off =>
              simp only at ha
              obtain ⟨rfl, rfl⟩ := Prod.mk.inj (Option.some.inj ha)
              rw [sealed_eq] at hc
              rw [sealed_eq]
              simp only [Bool.and_eq_true, decide_eq_true_eq] at hc
              obtain ⟨c0, c1⟩ := hc
              cases hx with
              | imm hi =>
                cases hi with
                | ip xs hb hcell hv =>
                  rename_i b f
                  refine ⟨.pointer (some (Addr.add ⟨b, f + off, none⟩ (i.toNat * ee.size))), by simp [Instr.sureAddr, c0, c1, run_sizeOf h hee, Result.andThen, hund, hde], ?_⟩
                  rw [add_none, Nat.add_assoc]
                  exact .imm (.ip xs hb hcell hv)
            | p l off =>
              simp only at ha
              cases h2 : Nat.beq off 0 with
              | false =>
                simp only [h2] at ha
                obtain ⟨rfl, rfl⟩ := Prod.mk.inj (Option.some.inj ha)
                simp only [Bool.and_eq_true, decide_eq_true_eq] at hc
                obtain ⟨c0, c1⟩ := hc
                cases hx with
                | imm hi => cases hi
                | p hφ =>
                  rename_i b f
                  refine ⟨.pointer (some (Addr.add ⟨b, f + off, none⟩ (i.toNat * ee.size))), by simp [Instr.sureAddr, c0, c1, run_sizeOf h hee, Result.andThen, hund, hde], ?_⟩
                  rw [add_none]
                  have := VR.p (R := R) (W := W) (off := off + i.toNat * ee.size) hφ
                  simpa [Nat.add_assoc] using this
              | true =>
                simp only [h2] at ha
                obtain ⟨rfl, rfl⟩ := Prod.mk.inj (Option.some.inj ha)
                obtain rfl := Nat.eq_of_beq_eq_true h2
                simp only [Bool.and_eq_true, decide_eq_true_eq] at hc
                obtain ⟨c0, c1⟩ := hc
                cases hx with
                | imm hi => cases hi
                | p hφ =>
                  rename_i b f
                  refine ⟨.pointer (some (Addr.add ⟨b, f + 0, none⟩ (i.toNat * ee.size))), by simp [Instr.sureAddr, c0, c1, run_sizeOf h hee, Result.andThen, hund, hde], ?_⟩
                  rw [add_none]
                  have := VR.q (R := R) (W := W) (sz := ee.size) (i := i.toNat) (j := 0) hφ
                  simpa [Nat.add_assoc] using this
            | _ => simp at ha
        | _ => simp [hde] at ha
      | _ => simp at ha
    | _ => simp at ha
end Go.Proofs.YtaneamfnjhiigaaDoor.E
