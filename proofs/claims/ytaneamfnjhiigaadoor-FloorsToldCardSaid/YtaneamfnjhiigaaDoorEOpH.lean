/- The engine, part 10: append. -/
import Derived.Test.YtaneamfnjhiigaaDoorEOpG
import Derived.Laws.BytesString
import Derived.Laws.AppendOwn
namespace Go.Proofs.YtaneamfnjhiigaaDoor.E
open Go
set_option linter.unusedSimpArgs false
set_option linter.unusedVariables false

/-- A slice's elements as they are now: a condition, how many cells each has, how many they are, and they. -/
def rowOf (sz : Nat) (x : AV) (σ : St) : Option (Bool × Nat × (Nat → List AV)) :=
  match x with
  | .s l sz' o n => match σ[l]? with
    | some (.tab sz'' N get) => match Nat.beq sz sz', Nat.beq sz sz'' with
      | true, true => some (Nat.ble (o + n) N, n, fun k => get (o + k))
      | _, _ => none
    | _ => none
  | .i sz' n get => match Nat.beq sz sz' with
    | true => some (true, n, get)
    | false => none
  | .v (.slice none 0 0) => some (true, 0, fun _ => [])
  | .z => some (true, 0, fun _ => [])
  | _ => none

theorem rowOf_ok {R : Nat → Prop} {φ : Phi} {σ : St} {W : World} (hs : Sim R φ σ W) {sz : Nat} (h0 : 0 < sz) {x : AV} {v : Value} (hx : VR R φ W x v) {c : Bool} {n : Nat} {get : Nat → List AV} (h : rowOf sz x σ = some (c, n, get)) (hc : c = true) :
    (∀ k, k < n → (get k).length = sz) ∧ n * sz < 281474976710656 ∧ ∃ A cap, v = .slice A n cap ∧ (n = 0 ∨ ∃ b o, A = some ⟨b, o, none⟩ ∧ ∀ (k j : Nat) (u : AV), k < n → (get k)[j]? = some u → ∃ y, W.cell? ⟨b, o + (k * sz + j), none⟩ = some y ∧ CR R W u y) := by
  cases x with
  | s l sz' o m =>
    simp only [rowOf] at h
    split at h
    · rename_i sz'' N g hl
      split at h
      · rename_i h1 h2
        obtain ⟨rfl, hh⟩ := Prod.mk.inj (Option.some.inj h)
        obtain ⟨rfl, rfl⟩ := Prod.mk.inj hh
        obtain rfl := Nat.eq_of_beq_eq_true h1
        obtain rfl := Nat.eq_of_beq_eq_true h2
        have hle := Nat.le_of_ble_eq_true hc
        obtain ⟨z0, hm, hlen, hb⟩ := hs.blk l _ hl
        refine ⟨fun k hk => hlen _ (by omega), Nat.lt_of_le_of_lt (Nat.mul_le_mul_right _ (by omega)) hm, ?_⟩
        cases hx with
        | imm hi => cases hi
        | nil hφ => exact ⟨_, 0, rfl, .inl rfl⟩
        | z hφ => exact ⟨_, 0, rfl, .inl rfl⟩
        | s hφ hn hr =>
          rename_i b f cap
          refine ⟨_, cap, rfl, .inr ⟨_, _, rfl, fun k j u hk hu => ?_⟩⟩
          rcases hb with ⟨e2, _⟩ | ⟨b', o', e2, _, hcell⟩
          · rw [hφ] at e2; cases e2
          · rw [hφ] at e2; obtain ⟨rfl, rfl⟩ := Prod.mk.inj (Option.some.inj (Option.some.inj e2))
            obtain ⟨y, hy, hv⟩ := hcell (o + k) j u (by omega) hu
            exact ⟨y, by rw [show f + o * sz + (k * sz + j) = f + ((o + k) * sz + j) by rw [Nat.add_mul]; omega]; exact hy, hv⟩
      · cases h
    · cases h
  | i sz' m g =>
    simp only [rowOf] at h
    cases hz : Nat.beq sz sz' with
    | false => simp [hz] at h
    | true =>
      simp only [hz] at h
      obtain ⟨rfl, hh⟩ := Prod.mk.inj (Option.some.inj h)
      obtain ⟨rfl, rfl⟩ := Prod.mk.inj hh
      obtain rfl := Nat.eq_of_beq_eq_true hz
      cases hx with
      | imm hi => cases hi with
        | nil => exact ⟨fun k hk => by omega, by omega, _, _, rfl, .inl rfl⟩
        | i xs hb hn hl hcell hv hsc hs' hm => exact ⟨hl, hm, _, _, rfl, .inr ⟨_, _, rfl, fun k j u hk hu => ⟨_, hcell k j u hk hu, hv k j u hk hu, hsc k j u hk hu⟩⟩⟩
  | v z =>
    cases z with
    | slice A len cap =>
      cases A with
      | none =>
        cases len with
        | zero =>
          cases cap with
          | succ n => simp [rowOf] at h
          | zero =>
          simp only [rowOf] at h
          obtain ⟨rfl, hh⟩ := Prod.mk.inj (Option.some.inj h)
          obtain ⟨rfl, rfl⟩ := Prod.mk.inj hh
          rw [hx.val]
          exact ⟨fun k hk => by omega, by omega, _, _, rfl, .inl rfl⟩
        | succ n => simp [rowOf] at h
      | some a => simp [rowOf] at h
    | _ => simp [rowOf] at h
  | z =>
    simp only [rowOf] at h
    obtain ⟨rfl, hh⟩ := Prod.mk.inj (Option.some.inj h)
    obtain ⟨rfl, rfl⟩ := Prod.mk.inj hh
    cases hx with
    | imm hi => cases hi with
      | z a => exact ⟨fun k hk => by omega, by omega, _, _, rfl, .inl rfl⟩
  | _ => simp [rowOf] at h

/-- Rows of values. -/
theorem row_values {W : World} {R : Nat → Prop} {sz n b o : Nat} {get : Nat → List AV} (hl : ∀ k, k < n → (get k).length = sz)
    (h : ∀ (k j : Nat) (u : AV), k < n → (get k)[j]? = some u → ∃ y, W.cell? ⟨b, o + (k * sz + j), none⟩ = some y ∧ CR R W u y) :
    ∃ xs : List Value, xs.length = n * sz ∧ (∀ (m : Nat) (x : Value), xs[m]? = some x → W.cell? ⟨b, o + m, none⟩ = some x) ∧ ∀ (k j : Nat) (u : AV), k < n → (get k)[j]? = some u → ∃ x, xs[k * sz + j]? = some x ∧ CR R W u x := by
  obtain ⟨f1, f2⟩ := flat_get sz get n hl
  obtain ⟨xs, h1, h2, h3⟩ := cells_values (V := CR R W) (b := b) (o := o) ((List.range n).flatMap get) fun m u hu => by
    obtain ⟨k, j, hk, rfl, hg⟩ := f2 m u hu
    exact h k j u hk hg
  refine ⟨xs, by rw [h1, f1], h2, fun k j u hk hu => ?_⟩
  have hj : j < sz := by
    rcases Nat.lt_or_ge j (get k).length with g | g
    · rw [hl k hk] at g; exact g
    · rw [List.getElem?_eq_none g] at hu; cases hu
  have hm : k * sz + j < xs.length := by
    rw [h1, f1]
    have : (k + 1) * sz ≤ n * sz := Nat.mul_le_mul_right _ hk
    rw [Nat.succ_mul] at this; omega
  refine ⟨xs[k * sz + j], List.getElem?_eq_getElem hm, ?_⟩
  obtain ⟨y, hy, hv⟩ := h k j u hk hu
  have := h2 _ _ (List.getElem?_eq_getElem hm)
  rw [hy] at this
  rw [← Option.some.inj this]; exact hv

/-- append, where there is room. -/
theorem run_app_room {P : Program} {t ty e : TypeId} {i : TypeInfo} (ht : P.underlying t = some (.slice e)) (hi : P.info? e = some i) {W W' : World} {A : Option Addr} {n cap m : Nat} {y : Value} {B : Option Addr} {cb : Nat} (hy : y = .slice B m cb)
    {news : List Value} (hl : news.length = m * i.size) (hnews : m = 0 ∨ ∃ b o, B = some ⟨b, o, none⟩ ∧ ∀ (k : Nat) (x : Value), news[k]? = some x → W.cell? ⟨b, o + k, none⟩ = some x) (hroom : n + m ≤ cap)
    (hst : match A with | some a => (storeCells (a.add (n * i.size)) news).run P W = .ok () W' | none => W' = W) :
    (Builtin.append_ #[t, t] ty #[.slice A n cap, y]).run P W = .ok (.slice A (n + m) cap) W' := by
  subst hy
  have hf : (Builtin.firstCells i.size m (.slice B m cb)).run P W = .ok news.toArray W := by
    rcases hnews with rfl | ⟨b, o, rfl, hn⟩
    · have : news = [] := List.eq_nil_of_length_eq_zero (by simpa using hl)
      subst this
      cases B <;> simp [Builtin.firstCells, loadCells, loadCellsFrom]
    · exact run_firstCells_some (P := P) W i.size m ⟨b, o, none⟩ m cb news hl fun j x hx => by rw [add_none]; exact hn j x hx
  cases A with
  | none =>
    subst hst
    simp [Builtin.append_, run_und ht, sizeOf, typeInfo, hi, Builtin.lenOf, hroom, hf]
  | some a =>
    simp only at hst
    simp [Builtin.append_, run_und ht, sizeOf, typeInfo, hi, Builtin.lenOf, hroom, hf, hst]

/-- Bytes as a text. -/
def byteAV : List AV → Option Int
  | [.v (.int .u8 a)] => some a
  | _ => none
def strB (l : List Int) : ByteArray := l.foldl (fun r n => r.push (UInt8.ofNat n.toNat)) ByteArray.empty
def strL (n : Nat) (g : Nat → List AV) : List Int := (List.range n).map fun k => (byteAV (g k)).getD 0
def aConvS (tt : List TE) (src dst : Nat) (x : AV) (σ : St) : Option (Bool × AV) :=
  match look tt src, look tt dst with
  | some e, some e' => match e.td, e'.td with
    | .slice el, .string => match look tt el with
      | some ee => match ee.td with
        | .int .u8 => match rowOf 1 x σ with
          | some (c, n, g) => some (c && ((List.range n).all fun k => (byteAV (g k)).isSome), .v (.string (strB (strL n g))))
          | none => none
        | _ => none
      | none => none
    | _, _ => none
  | _, _ => none
theorem aConvS_ok {P : Program} {tt : List TE} (ht : TTok P tt) {src dst : Nat} {R : Nat → Prop} {φ : Phi} {σ : St} {W : World} (hs : Sim R φ σ W) {x : AV} {v : Value} (hx : VR R φ W x v) {c : Bool} {u : AV} (ha : aConvS tt src dst x σ = some (c, u)) (hc : c = true) :
    ∃ y, (convert src dst v).run P W = .ok y W ∧ VR R φ W u y := by
  unfold aConvS at ha
  split at ha
  case h_2 => cases ha
  rename_i e e' he he'
  split at ha
  case h_2 => cases ha
  rename_i el htd htd'
  have hlk := (look_ok ht he).1
  have hlk' := (look_ok ht he').1
  rw [htd] at hlk
  rw [htd'] at hlk'
  split at ha
  case h_2 => cases ha
  rename_i ee hee
  split at ha
  case h_2 => cases ha
  rename_i htd2
  have hlk2 := (look_ok ht hee).1
  rw [htd2] at hlk2
  split at ha
  case h_2 => cases ha
  rename_i c1 n g hr
  obtain ⟨rfl, rfl⟩ := Prod.mk.inj (Option.some.inj ha)
  simp only [Bool.and_eq_true] at hc
  obtain ⟨hg1, _, A, cap, rfl, hA⟩ := rowOf_ok hs (by decide) hx hr hc.1
  have hby : ∀ k, k < n → ∃ a, g k = [.v (.int .u8 a)] := fun k hk => by
    have := List.all_eq_true.1 hc.2 k (List.mem_range.2 hk)
    unfold byteAV at this
    split at this
    · rename_i a h; exact ⟨a, h⟩
    · cases this
  have hund : P.underlying src = some (.slice el) := hlk
  have hund' : P.underlying dst = some .string := hlk'
  have hund2 : P.underlying el = some (.int .u8) := hlk2
  refine ⟨.string (strB (strL n g)), ?_, .imm (.v _)⟩
  rw [run_convert_bytes_string W src dst el A n cap hund hund2 hund']
  cases A with
  | none =>
    rcases hA with rfl | ⟨b, o, hA, _⟩
    · simp [Conv.bytesToString, strB, strL]
    · cases hA
  | some a =>
    refine run_bytesToString W a n cap (strL n g) ?_
    have hll : (strL n g).length = n := by simp [strL]
    have := run_firstCells_some (P := P) W 1 n a n cap ((strL n g).map (Value.int .u8)) (by rw [List.length_map, hll, Nat.mul_one]) fun j y hj => ?_
    · simpa [Builtin.firstCells] using this
    · obtain ⟨z0, hz, rfl⟩ := by
        rw [List.getElem?_map] at hj
        cases hk : (strL n g)[j]? with
        | none => rw [hk] at hj; cases hj
        | some q => rw [hk] at hj; exact (⟨q, hk, Option.some.inj hj⟩ : ∃ q, (strL n g)[j]? = some q ∧ Value.int .u8 q = y)
      have hjn : j < n := by rw [← hll]; exact (List.getElem?_eq_some_iff.1 hz).1
      rcases hA with rfl | ⟨b, o, hA, hcell⟩
      · omega
      · obtain rfl := Option.some.inj hA
        obtain ⟨q, hq⟩ := hby j hjn
        obtain ⟨y, hy1, hy2⟩ := hcell j 0 (.v (.int .u8 q)) hjn (by rw [hq]; rfl)
        have hval : y = .int .u8 q := by cases hy2.1; rfl
        subst hval
        have e1 : z0 = q := by
          unfold strL at hz
          rw [List.getElem?_map, List.getElem?_range hjn] at hz
          simp only [Option.map_some, Option.some.injEq] at hz
          rw [hq] at hz
          exact hz.symm
        subst e1
        rw [add_none]
        simpa using hy1
end Go.Proofs.YtaneamfnjhiigaaDoor.E
