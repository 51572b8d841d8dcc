/- The engine, part 4: operands, loads. -/
import Derived.Test.YtaneamfnjhiigaaDoorEOpA
namespace Go.Proofs.YtaneamfnjhiigaaDoor.E
open Go
set_option linter.unusedSimpArgs false
set_option linter.unusedVariables false

/-- A constant. -/
def cv : Value → AV
  | .agg cs => .a (cs.toList.map .v)
  | x => .v x

theorem cv_ok {R : Nat → Prop} {φ : Phi} {W : World} (x : Value) : VR R φ W (cv x) x := by
  cases x with
  | agg cs =>
    have := VR.a (R := R) (φ := φ) (W := W) (cells := cs.toList.map .v) (vs := cs.toList) (by simp) fun k u x hu hx => by
      obtain ⟨y, hy, rfl⟩ := getElem?_map_some hu
      rw [hy] at hx
      obtain rfl := Option.some.inj hx
      exact .imm (.v _)
    simpa [cv] using this
  | _ => exact .imm (.v _)

def ev (f : List AV) : Operand → AV
  | .tmp t => f.getD t .dead
  | .const x => cv x
  | .func g => .f (.func g) [] []
  | .global g => match globs.find? fun p => Nat.beq p.1 g with
    | some p => .ip p.2 0
    | none => .dead

theorem ev_ok {F0 : Nat → Nat → Prop} {W0 : World} {R : Nat → Prop} {φ : Phi} {σ : St} {f : List AV} {tmps : Array Value} {W : World} (h : Rel F0 W0 R φ σ f tmps W) (ds : List Deferred) (x : Operand) :
    VR R φ W (ev f x) ((Act.mk tmps ds).eval x) := by
  cases x with
  | tmp t =>
    simp only [ev, Act.eval]
    rw [List.getD_eq_getElem?_getD]
    cases hk : f[t]? with
    | none => exact .dead _
    | some u => exact h.fr t u hk
  | const x => exact cv_ok x
  | global g =>
    simp only [ev, Act.eval]
    split
    · rename_i p hp
      have h0 := List.find?_some hp
      have h1 : p.1 = g := Nat.eq_of_beq_eq_true h0
      have h2 := h.sim.old.glob p (List.mem_of_find?_eq_some hp)
      rw [h1] at h2
      exact .imm h2
    · exact .dead _
  | func g => exact VR.f (us := []) (vs := []) rfl (fun k u x hu => by simp at hu) rfl (fun k u x hu => by simp at hu)

/-- The cells from a place on. -/
theorem run_loadCellsFrom {P : Program} {W : World} {b o : Nat} (n : Nat) : ∀ (i : Nat) (xs : List Value) (acc : Array Value), xs.length = n → (∀ (k : Nat) (x : Value), xs[k]? = some x → W.cell? ⟨b, o + (i + k), none⟩ = some x) →
    (loadCellsFrom ⟨b, o, none⟩ i n acc).run P W = .ok (acc ++ xs.toArray) W := by
  induction n with
  | zero =>
    intro i xs acc hl hx
    obtain rfl := List.length_eq_zero_iff.1 hl
    simp [loadCellsFrom]
  | succ n ih =>
    intro i xs acc hl hx
    cases xs with
    | nil => simp at hl
    | cons x xs =>
      have h0 := hx 0 x rfl
      simp only [loadCellsFrom, Sem.run_bind]
      have ha : (Addr.add ⟨b, o, none⟩ i) = ⟨b, o + i, none⟩ := by unfold Addr.add; split <;> simp_all
      rw [ha]
      have hl0 : (load ⟨b, o + i, none⟩).run P W = .ok x W := by
        simp only [load, Sem.run]
        rw [show W.cell? ⟨b, o + i, none⟩ = some x from h0]
      rw [hl0]
      simp only [Result.andThen]
      rw [ih (i + 1) xs (acc.push x) (by simpa using hl) fun k y hy => by
        have := hx (k + 1) y (by simpa using hy)
        rw [show i + 1 + k = i + (k + 1) by omega]; exact this]
      simp
theorem run_loadCells {P : Program} {W : World} {b o : Nat} {xs : List Value} (hx : ∀ (k : Nat) (x : Value), xs[k]? = some x → W.cell? ⟨b, o + k, none⟩ = some x) :
    (loadCells ⟨b, o, none⟩ xs.length).run P W = .ok xs.toArray W := by
  unfold loadCells
  rw [run_loadCellsFrom xs.length 0 xs #[] rfl fun k x h => by rw [Nat.zero_add]; exact hx k x h]
  simp

/-- Cells of memory that read as abstract cells have values. -/
theorem cells_values {V : AV → Value → Prop} {W : World} {b o : Nat} (cs : List AV) (h : ∀ (k : Nat) (u : AV), cs[k]? = some u → ∃ x, W.cell? ⟨b, o + k, none⟩ = some x ∧ V u x) :
    ∃ xs : List Value, xs.length = cs.length ∧ (∀ (k : Nat) (x : Value), xs[k]? = some x → W.cell? ⟨b, o + k, none⟩ = some x) ∧ ∀ (k : Nat) (u : AV) (x : Value), cs[k]? = some u → xs[k]? = some x → V u x := by
  induction cs generalizing o with
  | nil => exact ⟨[], rfl, fun k x hx => by simp at hx, fun k u x hu => by simp at hu⟩
  | cons u cs ih =>
    obtain ⟨x, hx, hv⟩ := h 0 u rfl
    obtain ⟨xs, h1, h2, h3⟩ := ih (o := o + 1) fun k w hw => by
      obtain ⟨y, hy, hy'⟩ := h (k + 1) w (by simpa using hw)
      exact ⟨y, by rw [show o + 1 + k = o + (k + 1) by omega]; exact hy, hy'⟩
    refine ⟨x :: xs, by simp [h1], fun k y hy => ?_, fun k w y hw hy => ?_⟩
    · cases k with
      | zero => simp at hy; subst hy; exact hx
      | succ k => have := h2 k y (by simpa using hy); rw [show o + (k + 1) = o + 1 + k by omega]; exact this
    · cases k with
      | zero => simp at hw hy; subst hw hy; exact hv
      | succ k => exact h3 k w y (by simpa using hw) (by simpa using hy)

/-- Reading a variable out of cells that are known. -/
theorem run_loadVar {P : Program} {tt : List TE} (h : TTok P tt) {t : Nat} {e : TE} (he : look tt t = some e) {W : World} {V : AV → Value → Prop} {b o : Nat} {cs : List AV} (hl : cs.length = e.size) (ha : isAggD e.td = true)
    (hc : ∀ (k : Nat) (u : AV), cs[k]? = some u → ∃ x, W.cell? ⟨b, o + k, none⟩ = some x ∧ V u x) :
    ∃ xs : List Value, cs.length = xs.length ∧ (loadVar t ⟨b, o, none⟩).run P W = .ok (.agg xs.toArray) W ∧ ∀ (k : Nat) (u : AV) (x : Value), cs[k]? = some u → xs[k]? = some x → V u x := by
  obtain ⟨xs, h1, h2, h3⟩ := cells_values cs hc
  refine ⟨xs, h1.symm, ?_, h3⟩
  unfold loadVar
  simp only [Sem.run_bind, run_isAgg h he, ha, Result.andThen, if_true, run_sizeOf h he]
  rw [← hl, ← h1, run_loadCells h2]
  simp
theorem run_loadVar1 {P : Program} {tt : List TE} (h : TTok P tt) {t : Nat} {e : TE} (he : look tt t = some e) {W : World} {b o : Nat} {x : Value} (ha : isAggD e.td = false) (hc : W.cell? ⟨b, o, none⟩ = some x) :
    (loadVar t ⟨b, o, none⟩).run P W = .ok x W := by
  unfold loadVar
  simp only [Sem.run_bind, run_isAgg h he, ha, Result.andThen, load, Sem.run, hc]
  simp [Sem.run, load, hc]

/-- What is told of a load: a condition, and the value. -/
def ldCells (e : TE) (cs : List AV) (off : Nat) : Option AV :=
  match isAggD e.td with
  | true => match Nat.ble (off + e.size) cs.length with
    | true => some (.a ((cs.drop off).take e.size))
    | false => none
  | false => cs[off]?
def aLoad (tt : List TE) (t : Nat) (x : AV) (σ : St) : Option (Bool × AV) :=
  match look tt t with
  | none => none
  | some e =>
    match x with
    | .p l off =>
      match σ[l]? with
      | some (.lit cs) => (ldCells e cs off).map fun u => (true, u)
      | some (.tab sz n get) =>
        match isAggD e.td, Nat.beq off 0, Nat.beq e.size (n * sz) with
        | true, true, true => some (true, .a ((List.range n).flatMap get))
        | _, _, _ => none
      | _ => none
    | .q l sz i j =>
      match σ[l]? with
      | some (.tab sz' n get) => match Nat.beq sz sz' with
        | true => (ldCells e (get i) j).map fun u => (decide (i < n), u)
        | false => none
      | some (.lit cs) => (ldCells e cs (i * sz + j)).map fun u => (true, u)
      | _ => none
    | .ip cs j => (ldCells e cs j).map fun u => (true, u)
    | _ => none

theorem ldCells_ok {P : Program} {tt : List TE} (h : TTok P tt) {t : Nat} {e : TE} (he : look tt t = some e) {R : Nat → Prop} {φ : Phi} {W : World} {V : AV → Value → Prop} (hV : ∀ u x, V u x → VR R φ W u x) {b o : Nat} {cs : List AV} {off : Nat} {u : AV}
    (hu : ldCells e cs off = some u) (hc : ∀ (k : Nat) (u : AV), cs[k]? = some u → ∃ x, W.cell? ⟨b, o + k, none⟩ = some x ∧ V u x) :
    ∃ x, (loadVar t ⟨b, o + off, none⟩).run P W = .ok x W ∧ VR R φ W u x := by
  unfold ldCells at hu
  cases ha : isAggD e.td with
  | true =>
    simp only [ha] at hu
    cases hb : Nat.ble (off + e.size) cs.length with
    | false => simp [hb] at hu
    | true =>
      simp only [hb] at hu
      obtain rfl := Option.some.inj hu
      have hle : off + e.size ≤ cs.length := Nat.le_of_ble_eq_true hb
      obtain ⟨xs, h1, h2, h3⟩ := run_loadVar h he (W := W) (V := V) (b := b) (o := o + off) (cs := (cs.drop off).take e.size) (by simp; omega) ha fun k w hw => by
        rw [List.getElem?_take] at hw
        split at hw
        · rw [List.getElem?_drop] at hw
          obtain ⟨x, hx, hv⟩ := hc (off + k) w hw
          exact ⟨x, by rw [show o + off + k = o + (off + k) by omega]; exact hx, hv⟩
        · cases hw
      exact ⟨_, h2, .a h1 fun k w x hw hx => hV _ _ (h3 k w x hw hx)⟩
  | false =>
    simp only [ha] at hu
    obtain ⟨x, hx, hv⟩ := hc off u hu
    exact ⟨x, run_loadVar1 h he ha hx, hV _ _ hv⟩

theorem flat_get (sz : Nat) (get : Nat → List AV) : ∀ (n : Nat), (∀ k, k < n → (get k).length = sz) → ((List.range n).flatMap get).length = n * sz ∧ ∀ (m : Nat) (u : AV), ((List.range n).flatMap get)[m]? = some u → ∃ k j, k < n ∧ m = k * sz + j ∧ (get k)[j]? = some u := by
  intro n
  induction n with
  | zero => intro _; exact ⟨by simp, fun m u hu => by simp at hu⟩
  | succ n ih =>
    intro hl
    obtain ⟨h1, h2⟩ := ih fun k hk => hl k (by omega)
    rw [List.range_succ, List.flatMap_append]
    refine ⟨by simp [h1, hl n (by omega), Nat.succ_mul], fun m u hu => ?_⟩
    rw [List.getElem?_append] at hu
    split at hu
    · obtain ⟨k, j, hk, hm, hg⟩ := h2 m u hu
      exact ⟨k, j, by omega, hm, hg⟩
    · rename_i hge
      simp only [List.flatMap_cons, List.flatMap_nil, List.append_nil] at hu
      rw [h1] at hu hge
      exact ⟨n, m - n * sz, by omega, by omega, hu⟩

theorem aLoad_ok {P : Program} {tt : List TE} (h : TTok P tt) {t : Nat} {R : Nat → Prop} {φ : Phi} {σ : St} {W : World} (hs : Sim R φ σ W) {x : AV} {v : Value} (hx : VR R φ W x v) {c : Bool} {u : AV}
    (ha : aLoad tt t x σ = some (c, u)) (hc : c = true) : ∃ y, (Instr.loadAt t v).run P W = .ok y W ∧ VR R φ W u y := by
  unfold aLoad at ha
  cases he : look tt t with
  | none => simp [he] at ha
  | some e =>
    simp only [he] at ha
    cases x with
    | p l off =>
      simp only at ha
      cases hl : σ[l]? with
      | none => simp [hl] at ha
      | some B =>
        have hb := hs.blk l B hl
        simp only [hl] at ha
        cases hx with
        | imm hi => cases hi
        | p hφ =>
          rename_i b o
          cases B with
          | lit cs =>
            simp only [Option.map_eq_some_iff] at ha
            obtain ⟨u', hu', hh⟩ := ha
            obtain ⟨rfl, rfl⟩ := Prod.mk.inj hh
            obtain ⟨b', o', e2, _, hcell⟩ := hb
            rw [hφ] at e2; obtain ⟨rfl, rfl⟩ := Prod.mk.inj (Option.some.inj (Option.some.inj e2))
            obtain ⟨y, h1, h2⟩ := ldCells_ok h he (V := VR R φ W) (fun _ _ h => h) hu' hcell
            exact ⟨y, by simp only [Instr.loadAt, Instr.sureAddr, Sem.run_bind, Sem.run_pure, Result.andThen]; exact h1, h2⟩
          | tab sz n get =>
            simp only at ha
            split at ha
            · rename_i h1 h2 h3
              obtain ⟨rfl, rfl⟩ := Prod.mk.inj (Option.some.inj ha)
              obtain rfl := Nat.eq_of_beq_eq_true h2
              have h3 := Nat.eq_of_beq_eq_true h3
              obtain ⟨hz, hm, hlen, hb⟩ := hb
              rcases hb with ⟨e2, _⟩ | ⟨b', o', e2, _, hcell⟩
              · rw [hφ] at e2; cases e2
              · rw [hφ] at e2; obtain ⟨rfl, rfl⟩ := Prod.mk.inj (Option.some.inj (Option.some.inj e2))
                obtain ⟨f1, f2⟩ := flat_get sz get n hlen
                obtain ⟨xs, g1, g2, g3⟩ := run_loadVar h he (W := W) (V := VR R φ W) (b := b) (o := o + 0) (cs := (List.range n).flatMap get) (by rw [f1, h3]) h1 fun m w hw => by
                  obtain ⟨k, j, hk, rfl, hg⟩ := f2 m w hw
                  obtain ⟨x, hx, hv⟩ := hcell k j w hk hg
                  exact ⟨x, hx, .imm hv.1⟩
                exact ⟨_, by simp only [Instr.loadAt, Instr.sureAddr, Sem.run_bind, Sem.run_pure, Result.andThen]; exact g2, .a g1 g3⟩
            · cases ha
          | gone => simp at ha
          | free => simp at ha
          | lrec e => simp at ha
          | held => simp at ha
    | q l sz i j =>
      simp only at ha
      cases hl : σ[l]? with
      | none => simp [hl] at ha
      | some B =>
        have hb := hs.blk l B hl
        simp only [hl] at ha
        cases hx with
        | imm hi => cases hi
        | q hφ =>
          rename_i b o
          cases B with
          | tab sz' n get =>
            simp only at ha
            cases hz : Nat.beq sz sz' with
            | false => simp [hz] at ha
            | true =>
              obtain rfl := Nat.eq_of_beq_eq_true hz
              simp only [hz, Option.map_eq_some_iff] at ha
              obtain ⟨u', hu', hh⟩ := ha
              obtain ⟨rfl, rfl⟩ := Prod.mk.inj hh
              have hi : i < n := by simpa using hc
              obtain ⟨_, _, hlen, hb⟩ := hb
              rcases hb with ⟨e2, _⟩ | ⟨b', o', e2, _, hcell⟩
              · rw [hφ] at e2; cases e2
              · rw [hφ] at e2; obtain ⟨rfl, rfl⟩ := Prod.mk.inj (Option.some.inj (Option.some.inj e2))
                obtain ⟨y, h1, h2⟩ := ldCells_ok h he (V := CR R W) (φ := φ) (fun _ _ h => .imm h.1) (b := b) (o := o + i * sz) hu' fun k w hw => by
                  obtain ⟨x, hx, hv⟩ := hcell i k w hi hw
                  exact ⟨x, by rw [show o + i * sz + k = o + (i * sz + k) by omega]; exact hx, hv⟩
                refine ⟨y, ?_, h2⟩
                simp only [Instr.loadAt, Instr.sureAddr, Sem.run_bind, Sem.run_pure, Result.andThen]
                rw [show o + (i * sz + j) = o + i * sz + j by omega]; exact h1
          | lit cs =>
            simp only [Option.map_eq_some_iff] at ha
            obtain ⟨u', hu', hh⟩ := ha
            obtain ⟨rfl, rfl⟩ := Prod.mk.inj hh
            obtain ⟨b', o', e2, _, hcell⟩ := hb
            rw [hφ] at e2; obtain ⟨rfl, rfl⟩ := Prod.mk.inj (Option.some.inj (Option.some.inj e2))
            obtain ⟨y, h1, h2⟩ := ldCells_ok h he (V := VR R φ W) (fun _ _ h => h) hu' hcell
            exact ⟨y, by simp only [Instr.loadAt, Instr.sureAddr, Sem.run_bind, Sem.run_pure, Result.andThen]; exact h1, h2⟩
          | gone => simp at ha
          | free => simp at ha
          | lrec e => simp at ha
          | held => simp at ha
    | ip cs j =>
      simp only [Option.map_eq_some_iff] at ha
      obtain ⟨u', hu', hh⟩ := ha
      obtain ⟨rfl, rfl⟩ := Prod.mk.inj hh
      cases hx with
      | imm hi => cases hi with
        | ip xs hb hcell hv =>
          obtain ⟨y, h1, h2⟩ := ldCells_ok h he (V := IR R W) (φ := φ) (fun _ _ h => .imm h) hu' fun k w hw => ⟨_, hcell k w hw, hv k w hw⟩
          exact ⟨y, by simp only [Instr.loadAt, Instr.sureAddr, Sem.run_bind, Sem.run_pure, Result.andThen]; exact h1, h2⟩
    | _ => simp at ha
end Go.Proofs.YtaneamfnjhiigaaDoor.E
