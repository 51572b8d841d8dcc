/- The engine, part 13: structs, arrays and slices that are made. -/
import Derived.Test.YtaneamfnjhiigaaDoorEOpJ
namespace Go.Proofs.YtaneamfnjhiigaaDoor.E
open Go
set_option linter.unusedSimpArgs false
set_option linter.unusedVariables false

def aFill (pl : Nat → Option (Nat × Nat)) (cells : List AV) : List (Nat × AV) → Option (List AV)
  | [] => some cells
  | (i, u) :: rest =>
    match pl i, cellsOf u with
    | some (off, size), some cs =>
      match Nat.beq cs.length size, Nat.ble (off + cs.length) cells.length with
      | true, true => aFill pl (putCells cells off cs) rest
      | _, _ => none
    | _, _ => none

theorem fold_get (off : Nat) : ∀ (vs : List Value) (k0 : Nat) (cells : Array Value) (k : Nat), off + k0 + vs.length ≤ cells.size →
    ((vs.zipIdx k0).foldl (fun (cs : Array Value) (p : Value × Nat) => cs.setIfInBounds (off + p.2) p.1) cells).size = cells.size ∧
    ((vs.zipIdx k0).foldl (fun (cs : Array Value) (p : Value × Nat) => cs.setIfInBounds (off + p.2) p.1) cells)[k]? = if off + k0 ≤ k ∧ k < off + k0 + vs.length then vs[k - (off + k0)]? else cells[k]? := by
  intro vs
  induction vs with
  | nil =>
    intro k0 cells k _
    refine ⟨rfl, ?_⟩
    rw [if_neg (by simp only [List.length_nil]; omega)]
    rfl
  | cons v vs ih =>
    intro k0 cells k h
    simp only [List.length_cons] at h
    simp only [List.zipIdx_cons, List.foldl_cons, List.length_cons]
    obtain ⟨h1, h2⟩ := ih (k0 + 1) (cells.setIfInBounds (off + k0) v) k (by simp; omega)
    refine ⟨by rw [h1]; simp, ?_⟩
    rw [h2]
    by_cases hk : k = off + k0
    · subst hk
      have hlt : off + k0 < cells.size := by omega
      rw [if_neg (by omega), if_pos (by omega), Nat.sub_self]
      simp [hlt]
    · rw [Array.getElem?_setIfInBounds_ne (Ne.symm hk)]
      by_cases hin : off + (k0 + 1) ≤ k ∧ k < off + (k0 + 1) + vs.length
      · rw [if_pos hin, if_pos (by omega)]
        rw [show k - (off + k0) = (k - (off + (k0 + 1))) + 1 by omega, List.getElem?_cons_succ]
      · rw [if_neg hin, if_neg (by omega)]

theorem fill_ok {R : Nat → Prop} {φ : Phi} {W : World} {pl : Nat → Option (Nat × Nat)} : ∀ (parts : List (Nat × AV)) (vals : List (Nat × Value)) (cells : List AV) (arr : Array Value) (out : List AV),
    parts.length = vals.length → (∀ (k : Nat) (p : Nat × AV) (q : Nat × Value), parts[k]? = some p → vals[k]? = some q → p.1 = q.1 ∧ VR R φ W p.2 q.2) →
    cells.length = arr.size → (∀ (k : Nat) (u : AV) (x : Value), cells[k]? = some u → arr[k]? = some x → VR R φ W u x) → aFill pl cells parts = some out →
    ∃ arr', Instr.fill pl arr vals = some arr' ∧ out.length = arr'.size ∧ out.length = cells.length ∧ ∀ (k : Nat) (u : AV) (x : Value), out[k]? = some u → arr'[k]? = some x → VR R φ W u x := by
  intro parts
  induction parts with
  | nil =>
    intro vals cells arr out hl _ hla hr ha
    obtain rfl : vals = [] := List.eq_nil_of_length_eq_zero hl.symm
    obtain rfl := Option.some.inj ha
    exact ⟨arr, rfl, hla, rfl, hr⟩
  | cons p parts ih =>
    intro vals cells arr out hl hp hla hr ha
    obtain ⟨i, u⟩ := p
    cases vals with
    | nil => cases hl
    | cons q vals =>
      obtain ⟨i', v⟩ := q
      obtain ⟨e1, hv⟩ := hp 0 (i, u) (i', v) rfl rfl
      simp only at e1 hv
      subst e1
      simp only [aFill] at ha
      split at ha
      case h_2 => cases ha
      rename_i off size cs hpl hcs
      split at ha
      case h_2 => cases ha
      rename_i q1 q2
      have q1 := Nat.eq_of_beq_eq_true q1
      have q2 := Nat.le_of_ble_eq_true q2
      obtain ⟨vs, hvs, hlv, hrv⟩ := cellsOf_ok hv hcs
      have hsz : v.cells.size = size := by rw [← q1, hlv, ← hvs]; simp
      have hfold := fun k => fold_get off vs 0 arr k (by rw [← hlv, ← hla]; simpa using q2)
      have hfeq : (v.cells.zipIdx.foldl (fun cs x => match x with | (c, j) => cs.setIfInBounds (off + j) c) arr) = ((vs.zipIdx 0).foldl (fun (cs : Array Value) (p : Value × Nat) => cs.setIfInBounds (off + p.2) p.1) arr) := by
        rw [← Array.foldl_toList, Array.toList_zipIdx, hvs]
      obtain ⟨arr', f1, f2, f3, f4⟩ := ih vals (putCells cells off cs) _ out (by simpa using hl) (fun k p q hp' hq' => hp (k + 1) p q (by simpa using hp') (by simpa using hq'))
        (by rw [putCells_length q2, (hfold 0).1]; exact hla) (fun k w x hw hx => by
          rw [(hfold k).2] at hx
          rw [putCells_get q2] at hw
          simp only [Nat.add_zero] at hx
          rw [← hlv] at hx
          split at hw
          · rename_i hk
            rw [if_pos hk] at hx
            exact hrv _ w x hw hx
          · rename_i hk
            rw [if_neg hk] at hx
            exact hr k w x hw hx) ha
      refine ⟨arr', ?_, f2, by rw [f3, putCells_length q2], f4⟩
      simp only [Instr.fill, hpl]
      rw [if_neg (by rw [hsz]; simp; rw [← hla, ← q1]; exact q2), hfeq]
      exact f1

def structPl (tt : List TE) (flds : List (Nat × Nat)) (i : Nat) : Option (Nat × Nat) :=
  match flds[i]? with
  | some (ty, o) =>
    match look tt ty with
    | some ef => some (o, ef.size)
    | none => none
  | none => none

/-- A struct or an array of parts. -/
def aBuild (tt : List TE) (t : Nat) (parts : List (Nat × AV)) : Option (Bool × AV) :=
  match look tt t with
  | none => none
  | some e => match e.td with
    | .struct flds => (aFill (structPl tt flds) (e.zero.map .v) parts).map fun cs => (flds.all fun p => (look tt p.1).isSome, .a cs)
    | .array n el => match look tt el with
      | some ee => (aFill (fun i => some (i * ee.size, ee.size)) (e.zero.map .v) parts).map fun cs => (true, .a cs)
      | none => none
    | _ => none

theorem zero_rel {R : Nat → Prop} {φ : Phi} {W : World} {z : Value} {zs : List Value} (h : z.cells.toList = zs) : (zs.map AV.v).length = z.cells.size ∧ ∀ (k : Nat) (u : AV) (x : Value), (zs.map AV.v)[k]? = some u → z.cells[k]? = some x → VR R φ W u x := by
  subst h
  refine ⟨by simp, fun k u x hu hx => ?_⟩
  obtain ⟨y, hy, rfl⟩ := getElem?_map_some hu
  rw [Array.getElem?_toList, hx] at hy
  obtain rfl := Option.some.inj hy
  exact .imm (.v _)

theorem mapM_places {P : Program} {tt : List TE} (ht : TTok P tt) {W : World} : ∀ (fs : List Field), (fs.all fun f => (look tt f.type).isSome) = true →
    ((fs.mapM fun f => do pure (f.offset, ← sizeOf f.type)) : Sem (List (Nat × Nat))).run P W = .ok (fs.map fun f => (f.offset, ((look tt f.type).map (·.size)).getD 0)) W := by
  intro fs
  induction fs with
  | nil => intro _; simp
  | cons f fs ih =>
    intro h
    simp only [List.all_cons, Bool.and_eq_true] at h
    obtain ⟨e, he⟩ := Option.isSome_iff_exists.1 h.1
    simp only [List.mapM_cons, Sem.run_bind, run_sizeOf ht he, Result.andThen_ok, Sem.run_pure, ih h.2, List.map_cons, he, Option.map_some, Option.getD_some]

theorem aBuild_ok {P : Program} {tt : List TE} (ht : TTok P tt) {t : Nat} {R : Nat → Prop} {φ : Phi} {W : World} {parts : List (Nat × AV)} {vals : List (Nat × Value)} (hl : parts.length = vals.length)
    (hp : ∀ (k : Nat) (p : Nat × AV) (q : Nat × Value), parts[k]? = some p → vals[k]? = some q → p.1 = q.1 ∧ VR R φ W p.2 q.2) {c : Bool} {u : AV} (ha : aBuild tt t parts = some (c, u)) (hc : c = true) :
    ∃ y, (Instr.build t vals.toArray).run P W = .ok y W ∧ VR R φ W u y := by
  unfold aBuild at ha
  cases he : look tt t with
  | none => simp [he] at ha
  | some e =>
    simp only [he] at ha
    have hlk := (look_ok ht he).1
    obtain ⟨z, hz, hzc⟩ := run_zeroValue ht he W
    obtain ⟨z1, z2⟩ := zero_rel (R := R) (φ := φ) (W := W) hzc
    split at ha
    · rename_i flds htd
      rw [htd] at hlk
      obtain ⟨fs, hu, hmap, _⟩ := hlk
      simp only [Option.map_eq_some_iff] at ha
      obtain ⟨cs, hcs, hh⟩ := ha
      obtain ⟨rfl, rfl⟩ := Prod.mk.inj hh
      obtain ⟨arr, f1, f2, f3, f4⟩ := fill_ok parts vals _ z.cells cs hl hp z1 z2 hcs
      have hall : (fs.toList.all fun f => (look tt f.type).isSome) = true := by
        rw [← hmap] at hc
        rw [List.all_map] at hc
        exact hc
      have hm := mapM_places ht (W := W) fs.toList hall
      refine ⟨.agg arr, ?_, ?_⟩
      · unfold Instr.build
        simp only [Sem.run_bind, hz, Result.andThen_ok, run_und hu]
        have hm2 : ((fs.mapM fun f => do pure (f.offset, ← sizeOf f.type)) : Sem (Array (Nat × Nat))).run P W = .ok (fs.toList.map fun f => (f.offset, ((look tt f.type).map (·.size)).getD 0)).toArray W := by
          have : (fs.mapM fun f => do pure (f.offset, ← sizeOf f.type) : Sem (Array (Nat × Nat))) = List.toArray <$> (fs.toList.mapM fun f => do pure (f.offset, ← sizeOf f.type)) := by
            rw [Array.mapM_eq_mapM_toList]
          rw [this, Sem.run_map, hm]; rfl
        rw [hm2]
        simp only [Result.andThen_ok]
        have hpl : (fun i => (fs.toList.map fun f => (f.offset, ((look tt f.type).map (·.size)).getD 0)).toArray[i]?) = (structPl tt flds) := by
          funext i
          rw [← hmap]
          unfold structPl
          simp only [List.getElem?_toArray, List.getElem?_map]
          cases hf : fs.toList[i]? with
          | none => rfl
          | some f =>
            have := List.all_eq_true.1 hall f (List.mem_of_getElem? hf)
            obtain ⟨e', he'⟩ := Option.isSome_iff_exists.1 this
            simp [he']
        rw [hpl, f1]
        rfl
      · have := VR.a (R := R) (φ := φ) (W := W) (cells := cs) (vs := arr.toList) (by simpa using f2) fun k u x hu hx => f4 k u x hu (by simpa using hx)
        simpa using this
    · rename_i n el htd
      rw [htd] at hlk
      have hu : P.underlying t = some (.array n el) := hlk
      cases hee : look tt el with
      | none => simp [hee] at ha
      | some ee =>
        simp only [hee, Option.map_eq_some_iff] at ha
        obtain ⟨cs, hcs, hh⟩ := ha
        obtain ⟨rfl, rfl⟩ := Prod.mk.inj hh
        obtain ⟨arr, f1, f2, f3, f4⟩ := fill_ok parts vals _ z.cells cs hl hp z1 z2 hcs
        refine ⟨.agg arr, ?_, ?_⟩
        · unfold Instr.build
          simp only [Sem.run_bind, hz, Result.andThen_ok, run_und hu, run_sizeOf ht hee, f1]
          rfl
        · have := VR.a (R := R) (φ := φ) (W := W) (cells := cs) (vs := arr.toList) (by simpa using f2) fun k u x hu hx => f4 k u x hu (by simpa using hx)
          simpa using this
    · cases ha
end Go.Proofs.YtaneamfnjhiigaaDoor.E
