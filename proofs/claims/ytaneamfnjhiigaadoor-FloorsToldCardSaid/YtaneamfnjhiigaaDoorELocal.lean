/- The engine, part 24: contracts over the roots that a call is handed; contracts that read them alone. -/
import Derived.Test.YtaneamfnjhiigaaDoorELoop
namespace Go.Proofs.YtaneamfnjhiigaaDoor.E
open Go
set_option linter.unusedSimpArgs false
set_option linter.unusedVariables false

/-- Roots named anew. -/
def re1 (h : Nat → Option Nat) : AV → AV
  | .v x => .v x
  | .i sz n g => .i sz n g
  | .ip cs j => .ip cs j
  | .z => .z
  | .p l off => match h l with | some k => .p k off | none => .dead
  | .q l sz i j => match h l with | some k => .q k sz i j | none => .dead
  | .s l sz o n => match h l with | some k => .s k sz o n | none => .dead
  | .y l => match h l with | some k => .y k | none => .dead
  | _ => .dead
def re2 (h : Nat → Option Nat) : AV → AV
  | .a cs => .a (cs.map (re1 h))
  | u => re1 h u
def reAV (h : Nat → Option Nat) : AV → AV
  | .a cs => .a (cs.map (re1 h))
  | .t cs => .t (cs.map (re2 h))
  | .f fn us cs => .f fn (us.map (re2 h)) (cs.map (re2 h))
  | u => re1 h u
def reB (h : Nat → Option Nat) : Blk → Blk
  | .lit cs => .lit (cs.map (reAV h))
  | .free => .gone
  | B => B

section
variable {R R' : Nat → Prop} {φ φ' : Phi} {W W' : World} {h : Nat → Option Nat} (hR : ∀ b, R b → R' b) (hW : Calm R W W') (hr : ∀ b, room W b ≤ room W' b) (hφ : ∀ l k p, h l = some k → φ l = some p → φ' k = some p)
include hR hW hr hφ
theorem re1_ok {u : AV} {x : Value} (hv : VR R φ W u x) : VR R' φ' W' (re1 h u) x := by
  cases hv with
  | imm hi =>
    have hi' := hi.mono hR hW
    cases hi with
    | v => exact .imm hi'
    | nil => exact .imm hi'
    | z => exact .imm hi'
    | i => exact .imm hi'
    | ip => exact .imm hi'
    | a => exact .dead _
    | t => exact .dead _
  | @p l off b o hp =>
    simp only [re1]
    cases hh : h l with
    | none => exact .dead _
    | some k => exact .p (hφ _ _ _ hh hp)
  | @q l sz i j b o hp =>
    simp only [re1]
    cases hh : h l with
    | none => exact .dead _
    | some k => exact .q (hφ _ _ _ hh hp)
  | @nil l sz o _ hp =>
    simp only [re1]
    cases hh : h l with
    | none => exact .dead _
    | some k => exact .nil (hφ _ _ _ hh hp)
  | @z l sz o b f k0 hp =>
    simp only [re1]
    cases hh : h l with
    | none => exact .dead _
    | some k => exact .z (hφ _ _ _ hh hp)
  | @s l sz o n b f cap hp hn hr' =>
    simp only [re1]
    cases hh : h l with
    | none => exact .dead _
    | some k => exact .s (hφ _ _ _ hh hp) hn (Nat.le_trans hr' (hr _))
  | @y l b hp =>
    simp only [re1]
    cases hh : h l with
    | none => exact .dead _
    | some k => exact .y (hφ _ _ _ hh hp)
  | a => exact .dead _
  | t => exact .dead _
  | f => exact .dead _
  | dead => exact .dead _
theorem re1s_ok {us : List AV} {xs : List Value} (hl : us.length = xs.length) (hv : ∀ (k : Nat) (u : AV) (x : Value), us[k]? = some u → xs[k]? = some x → VR R φ W u x) :
    (us.map (re1 h)).length = xs.length ∧ ∀ (k : Nat) (u : AV) (x : Value), (us.map (re1 h))[k]? = some u → xs[k]? = some x → VR R' φ' W' u x :=
  ⟨by simpa using hl, fun k u x hu hx => by obtain ⟨y, hy, rfl⟩ := getElem?_map_some hu; exact re1_ok hR hW hr hφ (hv k y x hy hx)⟩
theorem re2_ok {u : AV} {x : Value} (hv : VR R φ W u x) : VR R' φ' W' (re2 h u) x := by
  cases u with
  | a cs =>
    obtain ⟨vs, rfl, hl, hr'⟩ := hv.agg
    obtain ⟨h1, h2⟩ := re1s_ok hR hW hr hφ hl hr'
    exact .a h1 h2
  | _ => exact re1_ok hR hW hr hφ hv
theorem re2s_ok {us : List AV} {xs : List Value} (hl : us.length = xs.length) (hv : ∀ (k : Nat) (u : AV) (x : Value), us[k]? = some u → xs[k]? = some x → VR R φ W u x) :
    (us.map (re2 h)).length = xs.length ∧ ∀ (k : Nat) (u : AV) (x : Value), (us.map (re2 h))[k]? = some u → xs[k]? = some x → VR R' φ' W' u x :=
  ⟨by simpa using hl, fun k u x hu hx => by obtain ⟨y, hy, rfl⟩ := getElem?_map_some hu; exact re2_ok hR hW hr hφ (hv k y x hy hx)⟩
theorem reAV_ok {u : AV} {x : Value} (hv : VR R φ W u x) : VR R' φ' W' (reAV h u) x := by
  cases u with
  | a cs =>
    obtain ⟨vs, rfl, hl, hr'⟩ := hv.agg
    obtain ⟨h1, h2⟩ := re1s_ok hR hW hr hφ hl hr'
    exact .a h1 h2
  | t cs =>
    obtain ⟨vs, rfl, hl, hr'⟩ := hv.tup
    obtain ⟨h1, h2⟩ := re2s_ok hR hW hr hφ hl hr'
    exact .t h1 h2
  | f fn us cs =>
    cases hv with
    | imm hi => cases hi
    | f l1 r1 l2 r2 =>
      obtain ⟨h1, h2⟩ := re2s_ok hR hW hr hφ l1 r1
      obtain ⟨h3, h4⟩ := re2s_ok hR hW hr hφ l2 r2
      exact .f h1 h2 h3 h4
  | _ => exact re1_ok hR hW hr hφ hv
theorem reAVs_ok {us : List AV} {xs : List Value} (hv : VRs R φ W us xs) : VRs R' φ' W' (us.map (reAV h)) xs :=
  ⟨by simpa using hv.1, fun k u x hu hx => by obtain ⟨y, hy, rfl⟩ := getElem?_map_some hu; exact reAV_ok hR hW hr hφ (hv.2 k y x hy hx)⟩
end

/-- A block under another name, elsewhere as it is. -/
theorem reB_ok {R R' : Nat → Prop} {φ φ' : Phi} {W W' : World} {h : Nat → Option Nat} (hR : ∀ b, R b → R' b) {F : Nat → Nat → Prop} (hk : Keep F W W') (hW : Calm R W W') (hφ : ∀ l k p, h l = some k → φ l = some p → φ' k = some p) {l k : Nat} {B : Blk} (hl : h l = some k)
    (hB : BlkOk R φ W l B) (ho : ∀ b k, own φ l B b k → ¬ F b k) : BlkOk R' φ' W' k (reB h B) := by
  cases B with
  | lit cs =>
    obtain ⟨b, o, e, f, g⟩ := hB
    refine ⟨b, o, hφ _ _ _ hl e, f.keep hk, fun j u hu => ?_⟩
    obtain ⟨y, hy, rfl⟩ := getElem?_map_some hu
    obtain ⟨x, hx, hv⟩ := g j y hy
    have hlt := lt_of_get? hy
    exact ⟨x, hk.cell (ho b (o + j) ⟨o, e, by omega, by omega⟩) hx, reAV_ok hR hW hk.room_le hφ hv⟩
  | tab sz n get =>
    obtain ⟨z, m, a, g⟩ := hB
    refine ⟨z, m, a, ?_⟩
    rcases g with ⟨e, hn⟩ | ⟨b, o, e, f, g⟩
    · exact .inl ⟨hφ _ _ _ hl e, hn⟩
    · refine .inr ⟨b, o, hφ _ _ _ hl e, f.keep hk, fun k j u hkn hu => ?_⟩
      obtain ⟨x, hx, hv⟩ := g k j u hkn hu
      exact ⟨x, hk.cell (ho b _ ⟨o, e⟩) hx, hv.mono hR hW⟩
  | lrec e =>
    obtain ⟨b, r, h1, h2, h3, h4⟩ := hB
    exact ⟨b, r, hφ _ _ _ hl h1, by rw [hk.obj b (by
      rcases Nat.lt_or_ge b W.heap.size with h | h
      · exact h
      · rw [Array.getElem?_eq_none h] at h2; cases h2) fun k hf => ho b k h1 hf]; exact h2, h3, h4⟩
  | held =>
    obtain ⟨b, r, h1, h2⟩ := hB
    obtain ⟨st, pe, h3⟩ := hk.loops b r h2
    exact ⟨b, _, hφ _ _ _ hl h1, h3⟩
  | gone => trivial
  | free => trivial
theorem reB_own {φ φ' : Phi} {h : Nat → Option Nat} {l k : Nat} {B : Blk} (hφ : φ l = φ' k) {b j : Nat} (ho : own φ' k (reB h B) b j) : own φ l B b j := by
  cases B with
  | lit cs => obtain ⟨o, e, h1, h2⟩ := ho; exact ⟨o, hφ.trans e, h1, by simpa using h2⟩
  | tab => obtain ⟨o, e⟩ := ho; exact ⟨o, hφ.trans e⟩
  | lrec => exact hφ.trans ho
  | held => exact hφ.trans ho
  | gone => exact ho.elim
  | free => exact ho.elim

/-! ### The roots that are reached -/
def rootsAV : AV → List Nat
  | .p l _ => [l]
  | .q l _ _ _ => [l]
  | .s l _ _ _ => [l]
  | .y l => [l]
  | .a cs => cs.flatMap rootsAV1
  | .t cs => cs.flatMap rootsAV2
  | .f _ us cs => us.flatMap rootsAV2 ++ cs.flatMap rootsAV2
  | _ => []
where
  rootsAV1 : AV → List Nat
    | .p l _ => [l]
    | .q l _ _ _ => [l]
    | .s l _ _ _ => [l]
    | .y l => [l]
    | _ => []
  rootsAV2 : AV → List Nat
    | .a cs => cs.flatMap rootsAV1
    | u => rootsAV1 u
def rootsB : Option Blk → List Nat
  | some (.lit cs) => cs.flatMap rootsAV
  | _ => []
def memN (l : Nat) : List Nat → Bool
  | [] => false
  | m :: ms => match Nat.beq l m with | true => true | false => memN l ms
def reach (σ : St) : Nat → List Nat → List Nat → List Nat
  | 0, _, acc => acc
  | _ + 1, [], acc => acc
  | n + 1, l :: todo, acc => match memN l acc with
    | true => reach σ n todo acc
    | false => reach σ n (rootsB σ[l]? ++ todo) (acc ++ [l])
def idxOf : List Nat → Nat → Option Nat
  | [], _ => none
  | x :: l, m => match Nat.beq x m with
    | true => some 0
    | false => match idxOf l m with | some k => some (k + 1) | none => none
theorem idxOf_some : ∀ {ρ : List Nat} {m k : Nat}, idxOf ρ m = some k → ρ[k]? = some m
  | [], _, _, h => by cases h
  | x :: l, m, k, h => by
    simp only [idxOf] at h
    split at h
    · rename_i hb; obtain rfl := Option.some.inj h; rw [Nat.eq_of_beq_eq_true hb]; rfl
    · split at h
      · rename_i k' hk; obtain rfl := Option.some.inj h; simpa using idxOf_some hk
      · cases h
theorem idxOf_none : ∀ {ρ : List Nat} {m : Nat}, idxOf ρ m = none → m ∉ ρ
  | [], _, _ => by simp
  | x :: l, m, h => by
    simp only [idxOf] at h
    split at h
    · cases h
    · rename_i hb
      split at h
      · cases h
      · rename_i hk
        simp only [List.mem_cons, not_or]
        exact ⟨fun e => Nat.ne_of_beq_eq_false hb e.symm, idxOf_none hk⟩
def nodupB : List Nat → Bool
  | [] => true
  | x :: l => match memN x l with | true => false | false => nodupB l
theorem memN_iff : ∀ {l : Nat} {L : List Nat}, memN l L = true ↔ l ∈ L
  | _, [] => by simp [memN]
  | l, m :: L => by
    simp only [memN]
    cases hb : Nat.beq l m with
    | true => simp [Nat.eq_of_beq_eq_true hb]
    | false => simp [memN_iff, Nat.ne_of_beq_eq_false hb]
theorem nodupB_spec : ∀ {L : List Nat}, nodupB L = true → L.Nodup
  | [], _ => List.nodup_nil
  | x :: l, h => by
    simp only [nodupB] at h
    split at h
    · cases h
    · rename_i hm
      exact List.nodup_cons.2 ⟨fun hx => (by rw [memN_iff.2 hx] at hm; cases hm), nodupB_spec h⟩
theorem idxOf_of : ∀ {ρ : List Nat}, ρ.Nodup → ∀ {m k : Nat}, ρ[k]? = some m → idxOf ρ m = some k
  | [], _, m, k, h => by simp at h
  | x :: l, hn, m, k, h => by
    have hn := List.nodup_cons.1 hn
    simp only [idxOf]
    cases k with
    | zero => simp at h; subst h; simp
    | succ k =>
      simp at h
      have hne : x ≠ m := fun e => hn.1 (e ▸ List.mem_of_getElem? h)
      have hb : Nat.beq x m = false := by
        cases hb : Nat.beq x m with
        | true => exact absurd (Nat.eq_of_beq_eq_true hb) hne
        | false => rfl
      rw [hb, idxOf_of hn.2 h]
def gath (σ : St) : List Nat → Option St
  | [] => some []
  | l :: ρ => match σ[l]?, gath σ ρ with
    | some B, some s => some (B :: s)
    | _, _ => none
theorem gath_get {σ : St} : ∀ {ρ : List Nat} {s : St}, gath σ ρ = some s → s.length = ρ.length ∧ ∀ (k m : Nat), ρ[k]? = some m → ∃ B, σ[m]? = some B ∧ s[k]? = some B
  | [], s, h => by
    obtain rfl := Option.some.inj h
    refine ⟨rfl, ?_⟩
    intro k m hk
    simp at hk
  | l :: ρ, s, h => by
    simp only [gath] at h
    split at h
    · rename_i B s' h1 h2
      obtain rfl := Option.some.inj h
      obtain ⟨e1, e2⟩ := gath_get h2
      refine ⟨by simp [e1], fun k m hk => ?_⟩
      cases k with
      | zero => simp at hk; subst hk; exact ⟨B, h1, rfl⟩
      | succ k => obtain ⟨B', g1, g2⟩ := e2 k m (by simpa using hk); exact ⟨B', g1, by simpa using g2⟩
    · cases h
/-- The roots' names for the one who calls. -/
def back (ρ : List Nat) (n : Nat) : Nat → Option Nat := fun k => match ρ[k]? with
  | some m => some m
  | none => some (n + (k - ρ.length))
def setAll : St → List Nat → St → St
  | σ, m :: ρ, B :: bs => setAll (σ.set m B) ρ bs
  | σ, _, _ => σ
theorem setAll_len : ∀ (ρ : List Nat) (bs σ : St), (setAll σ ρ bs).length = σ.length
  | m :: ρ, B :: bs, σ => by simp only [setAll]; rw [setAll_len]; simp
  | [], _, σ => by simp [setAll]
  | _ :: _, [], σ => by simp [setAll]
theorem setAll_other : ∀ (ρ : List Nat) (bs σ : St) (m : Nat), m ∉ ρ → (setAll σ ρ bs)[m]? = σ[m]?
  | m' :: ρ, B :: bs, σ, m, h => by
    simp only [setAll]
    rw [setAll_other ρ bs _ m fun hm => h (List.mem_cons_of_mem _ hm), List.getElem?_set_ne fun e => h (by rw [e]; exact List.mem_cons_self)]
  | [], _, σ, _, _ => by simp [setAll]
  | _ :: _, [], σ, _, _ => by simp [setAll]
theorem setAll_at : ∀ (ρ : List Nat) (bs σ : St), ρ.Nodup → ρ.length ≤ bs.length → (∀ m ∈ ρ, m < σ.length) → ∀ (k m : Nat), ρ[k]? = some m → (setAll σ ρ bs)[m]? = bs[k]?
  | m' :: ρ, B :: bs, σ, hn, hl, hlt, k, m, hk => by
    have hn := List.nodup_cons.1 hn
    simp only [setAll]
    cases k with
    | zero =>
      simp at hk; subst hk
      rw [setAll_other ρ bs _ m' hn.1, List.getElem?_set_self (hlt m' (List.mem_cons_self))]
      rfl
    | succ k =>
      rw [setAll_at ρ bs _ hn.2 (by simpa using hl) (fun x hx => by simpa using hlt x (List.mem_cons_of_mem _ hx)) k m (by simpa using hk)]
      rfl
  | [], _, σ, _, _, _, k, m, hk => by simp at hk
  | _ :: _, [], σ, _, hl, _, k, m, hk => by simp at hl

/-- A contract over the roots that are reached from its arguments: they come first, in the order in which they are reached; new ones behind. -/
def localCtr (G : List AV → St → Option (Bool × AV × St)) : Ctr := fun args σ =>
  normL (reach σ 64 (args.flatMap rootsAV) []) fun ρ => match gath σ ρ with
    | some bs => match G (args.map (reAV (idxOf ρ))) (bs.map (reB (idxOf ρ))) with
      | some (c, u, σl) => match nodupB ρ && Nat.ble ρ.length σl.length with
        | true => some (c, reAV (back ρ σ.length) u, setAll σ ρ (σl.map (reB (back ρ σ.length))) ++ (σl.map (reB (back ρ σ.length))).drop ρ.length)
        | false => none
      | none => none
    | none => none
def footL : List AV → St → List Nat := fun args σ => reach σ 64 (args.flatMap rootsAV) []
/-- The same blocks, but for how rows are told. -/
def Same1 (B0 B : Blk) : Prop := B0 = B ∨ ∃ sz n g0 g, B0 = .tab sz n g0 ∧ B = .tab sz n g ∧ ∀ k, k < n → g0 k = g k
inductive SameS : St → St → Prop
  | nil : SameS [] []
  | cons {a b : Blk} {s t : St} (h : Same1 a b) (r : SameS s t) : SameS (a :: s) (b :: t)
theorem Same1.refl (B : Blk) : Same1 B B := .inl rfl
theorem Same1.tab {sz n : Nat} {g0 g : Nat → List AV} (h : ∀ k, k < n → g0 k = g k) : Same1 (.tab sz n g0) (.tab sz n g) := .inr ⟨sz, n, g0, g, rfl, rfl, h⟩
theorem SameS.refl : ∀ σ : St, SameS σ σ
  | [] => .nil
  | B :: s => .cons (.inl rfl) (SameS.refl s)
theorem SameS.len : ∀ {s t : St}, SameS s t → s.length = t.length
  | _, _, .nil => rfl
  | _, _, .cons _ r => by simp [SameS.len r]
theorem SameS.get : ∀ {s t : St}, SameS s t → ∀ (l : Nat) (B0 : Blk), s[l]? = some B0 → ∃ B, t[l]? = some B ∧ Same1 B0 B
  | _, _, .nil, l, B0, h => by simp at h
  | _, _, .cons h _, 0, B0, e => by simp at e; subst e; exact ⟨_, rfl, h⟩
  | _, _, .cons _ r, l + 1, B0, e => by obtain ⟨B, e1, e2⟩ := SameS.get r l B0 (by simpa using e); exact ⟨B, by simpa using e1, e2⟩
theorem SameS.get' : ∀ {s t : St}, SameS s t → ∀ (l : Nat) (B : Blk), t[l]? = some B → ∃ B0, s[l]? = some B0 ∧ Same1 B0 B
  | _, _, .nil, l, B0, h => by simp at h
  | _, _, .cons h _, 0, B0, e => by simp at e; subst e; exact ⟨_, rfl, h⟩
  | _, _, .cons _ r, l + 1, B0, e => by obtain ⟨B, e1, e2⟩ := SameS.get' r l B0 (by simpa using e); exact ⟨B, by simpa using e1, e2⟩
theorem Same1.own {B0 B : Blk} (h : Same1 B0 B) {φ : Phi} {l b k : Nat} : own φ l B0 b k ↔ own φ l B b k := by
  rcases h with rfl | ⟨sz, n, g0, g, rfl, rfl, _⟩
  · exact Iff.rfl
  · exact Iff.rfl
theorem Same1.ok {B0 B : Blk} (h : Same1 B0 B) {R : Nat → Prop} {φ : Phi} {W : World} {l : Nat} (hb : BlkOk R φ W l B) : BlkOk R φ W l B0 := by
  rcases h with rfl | ⟨sz, n, g0, g, rfl, rfl, hg⟩
  · exact hb
  · obtain ⟨h1, h2, h3, h4⟩ := hb
    refine ⟨h1, h2, fun k hk => by rw [hg k hk]; exact h3 k hk, ?_⟩
    rcases h4 with h4 | ⟨b, o, e, fr, h5⟩
    · exact .inl h4
    · exact .inr ⟨b, o, e, fr, fun k j u hk hu => h5 k j u hk (by rw [← hg k hk]; exact hu)⟩
theorem SameS.sim {s t : St} (h : SameS s t) {R : Nat → Prop} {φ : Phi} {W : World} (hs : Sim R φ t W) : Sim R φ s W := by
  refine ⟨fun l B0 e => ?_, fun l l' B0 B0' hne e e' b k k' w w' => ?_, fun l B0 e b k w => ?_, hs.old, fun l hl => hs.dom l (by rw [← h.len]; exact hl)⟩
  · obtain ⟨B, e1, e2⟩ := h.get l B0 e
    exact e2.ok (hs.blk l B e1)
  · obtain ⟨B, e1, e2⟩ := h.get l B0 e
    obtain ⟨B', e1', e2'⟩ := h.get l' B0' e'
    exact hs.sep l l' B B' hne e1 e1' b k k' (e2.own.1 w) (e2'.own.1 w')
  · obtain ⟨B, e1, e2⟩ := h.get l B0 e
    exact hs.ro l B e1 b k (e2.own.1 w)
theorem SameS.owned {s t : St} (h : SameS s t) {φ : Phi} {b k : Nat} : Owned φ s b k ↔ Owned φ t b k := by
  constructor
  · rintro ⟨l, B0, e, w⟩
    obtain ⟨B, e1, e2⟩ := h.get l B0 e
    exact ⟨l, B, e1, e2.own.1 w⟩
  · rintro ⟨l, B, e, w⟩
    obtain ⟨B0, e1, e2⟩ := h.get' l B e
    exact ⟨l, B0, e1, e2.own.2 w⟩
theorem SameS.turn {s t : St} (h : SameS s t) {R R' : Nat → Prop} {φ φ' : Phi} {W W' : World} {σ' : St} (T : Turn R φ s W R' φ' σ' W') : Turn R φ t W R' φ' σ' W' where
  hR := T.hR
  hR' b hb := by
    rcases T.hR' b hb with h1 | h1 | ⟨k, h1⟩
    · exact .inl h1
    · exact .inr (.inl h1)
    · exact .inr (.inr ⟨k, h.owned.1 h1⟩)
  ext := T.ext
  sim := T.sim
  reg b k hw := by
    rcases T.reg b k hw with h1 | h1
    · exact .inl (h.owned.1 h1)
    · exact .inr h1
  keep := T.keep.mono fun b k hw => h.owned.1 hw
theorem localCtr_can {P : Program} {X : Cx} (hX : CxOk P X) {g : Nat} {fn : Func} (hg : P.funcs[g]? = some fn) (hnm : (fn.name == "runtime.NumGoroutine") = false) (hc : fn.body = some (bodyOf fn)) {G : List AV → St → Option (Bool × AV × St)}
    (hG : ∀ args σ u σ', G args σ = some (true, u, σ') → ∃ σ0, SameS σ0 σ ∧ runF X fn args σ0 u σ') : CtrOk P g (localCtr G) := by
  refine ⟨⟨fn, hg, hnm, by rw [hc]; rfl⟩, ?_⟩
  intro args σ u σ' h R φ W hs vals hv
  unfold localCtr at h
  rw [normL_eq] at h
  generalize reach σ 64 (args.flatMap rootsAV) [] = ρ at h
  split at h
  case h_2 => cases h
  rename_i bs hbs
  split at h
  case h_2 => cases h
  rename_i c u0 σl hG0
  split at h
  case h_2 => cases h
  rename_i hcond
  simp only [Option.some.injEq, Prod.mk.injEq] at h
  obtain ⟨rfl, rfl, rfl⟩ := h
  simp only [Bool.and_eq_true] at hcond
  have hnd := nodupB_spec hcond.1
  have hle := Nat.le_of_ble_eq_true hcond.2
  obtain ⟨hbl, hbg⟩ := gath_get hbs
  have hlt : ∀ m ∈ ρ, m < σ.length := fun m hm => by
    obtain ⟨k, hk⟩ := List.getElem?_of_mem hm
    obtain ⟨B, e, _⟩ := hbg k m hk
    exact lt_of_get? e
  have hren : ∀ {k m : Nat}, ρ[k]? = some m → ren ρ φ k = φ m := fun h => by simp only [ren, h]
  have hto : ∀ l k p, idxOf ρ l = some k → φ l = some p → ren ρ φ k = some p := fun l k p h1 h2 => by rw [hren (idxOf_some h1)]; exact h2
  have hcalm0 : Calm R W W := fun _ _ _ _ h => h
  have hbk : ∀ (k : Nat) (B : Blk), (bs.map (reB (idxOf ρ)))[k]? = some B → ∃ m B0, ρ[k]? = some m ∧ σ[m]? = some B0 ∧ B = reB (idxOf ρ) B0 := fun k B hB => by
    obtain ⟨B0, h1, h2⟩ := getElem?_map_some hB
    have hk : k < ρ.length := by rw [← hbl]; exact lt_of_get? h1
    obtain ⟨m, hm⟩ := get?_of_lt hk
    obtain ⟨B1, e1, e2⟩ := hbg k m hm
    rw [h1] at e2
    obtain rfl := Option.some.inj e2
    exact ⟨m, B0, hm, e1, h2.symm⟩
  have hloc : ∀ b k, Owned (ren ρ φ) (bs.map (reB (idxOf ρ))) b k → ∃ m B, m ∈ ρ ∧ σ[m]? = some B ∧ own φ m B b k := fun b k ⟨l, B, e, hw⟩ => by
    obtain ⟨m, B0, h1, h2, rfl⟩ := hbk l B e
    exact ⟨m, B0, List.mem_of_getElem? h1, h2, reB_own (hren h1).symm hw⟩
  have hsl : Sim R (ren ρ φ) (bs.map (reB (idxOf ρ))) W := by
    refine ⟨fun l B e => ?_, fun l l' B B' hne e e' b k k' w w' => ?_, fun l B e b k w => ?_, hs.old, fun l hl => ?_⟩
    · obtain ⟨m, B0, h1, h2, rfl⟩ := hbk l B e
      exact reB_ok (fun _ h => h) (Keep.refl (fun _ _ => False) W) hcalm0 hto (idxOf_of hnd h1) (hs.blk m B0 h2) fun _ _ _ h => h
    · obtain ⟨m, B0, h1, h2, rfl⟩ := hbk l B e
      obtain ⟨m', B0', h1', h2', rfl⟩ := hbk l' B' e'
      refine hs.sep m m' B0 B0' (fun he => hne ?_) h2 h2' b k k' (reB_own (hren h1).symm w) (reB_own (hren h1').symm w')
      subst he
      have e1 := idxOf_of hnd h1
      rw [idxOf_of hnd h1'] at e1
      exact (Option.some.inj e1).symm
    · obtain ⟨m, B0, h1, h2, rfl⟩ := hbk l B e
      exact hs.ro m B0 h2 b k (reB_own (hren h1).symm w)
    · have : ρ[l]? = none := List.getElem?_eq_none (by rw [← hbl]; simpa using hl)
      simp only [ren, this]
  obtain ⟨σc, hsc, hrun⟩ := hG _ _ _ _ hG0
  refine (runF_ok hX hg hnm hc hrun (hsc.sim hsl) (reAVs_ok (fun _ h => h) hcalm0 (fun _ => Nat.le_refl _) hto hv)).mono ?_
  rintro e W' ⟨v, R', φl, rfl, T, hv'⟩
  replace T := hsc.turn T
  obtain ⟨φ', hφ'⟩ : ∃ φ' : Phi, φ' = fun l => match idxOf ρ l with | some k => φl k | none => if l < σ.length then φ l else φl (ρ.length + (l - σ.length)) := ⟨_, rfl⟩
  have hx : Ext φ φ' := fun l p hp => by
    rw [hφ']
    dsimp only
    cases hi : idxOf ρ l with
    | some k => exact T.ext _ _ (hto l k p hi hp)
    | none =>
      have : l < σ.length := by
        rcases Nat.lt_or_ge l σ.length with h | h
        · exact h
        · rw [hs.dom l h] at hp; cases hp
      simp only [this, if_true]; exact hp
  have hback : ∀ k m, back ρ σ.length k = some m → φ' m = φl k := fun k m hb => by
    unfold back at hb
    rw [hφ']
    dsimp only
    split at hb
    · rename_i m' hm
      obtain rfl := Option.some.inj hb
      rw [idxOf_of hnd hm]
    · rename_i hm
      obtain rfl := Option.some.inj hb
      have hk : ρ.length ≤ k := List.getElem?_eq_none_iff.1 hm
      have : idxOf ρ (σ.length + (k - ρ.length)) = none := by
        cases hi : idxOf ρ (σ.length + (k - ρ.length)) with
        | none => rfl
        | some j => have := hlt _ (List.mem_of_getElem? (idxOf_some hi)); omega
      rw [this]
      dsimp only
      rw [if_neg (by omega)]
      congr 1
      omega
  have hfro : ∀ l k p, back ρ σ.length l = some k → φl l = some p → φ' k = some p := fun l k p h1 h2 => by rw [hback l k h1]; exact h2
  have hcalm : Calm R' W' W' := fun _ _ _ _ h => h
  have hget : ∀ (m : Nat) (B : Blk), (setAll σ ρ (σl.map (reB (back ρ σ.length))) ++ (σl.map (reB (back ρ σ.length))).drop ρ.length)[m]? = some B →
      (∃ k B0, back ρ σ.length k = some m ∧ σl[k]? = some B0 ∧ B = reB (back ρ σ.length) B0) ∨ (m ∉ ρ ∧ σ[m]? = some B ∧ φ' m = φ m) := fun m B hB => by
    rw [List.getElem?_append] at hB
    rw [setAll_len] at hB
    split at hB
    · rename_i hm
      cases hi : idxOf ρ m with
      | some k =>
        have hk := idxOf_some hi
        rw [setAll_at ρ _ σ hnd (by simpa using hle) hlt k m hk] at hB
        obtain ⟨B0, h1, h2⟩ := getElem?_map_some hB
        exact .inl ⟨k, B0, by unfold back; rw [hk], h1, h2.symm⟩
      | none =>
        have hk := idxOf_none hi
        rw [setAll_other ρ _ σ m hk] at hB
        refine .inr ⟨hk, hB, ?_⟩
        rw [hφ']
        dsimp only
        rw [hi]
        dsimp only
        rw [if_pos hm]
    · rename_i hm
      rw [List.getElem?_drop] at hB
      obtain ⟨B0, h1, h2⟩ := getElem?_map_some hB
      refine .inl ⟨_, B0, ?_, h1, h2.symm⟩
      unfold back
      rw [List.getElem?_eq_none (by omega)]
      dsimp only
      congr 1
      omega
  have hown : ∀ {k m : Nat} {B0 : Blk} {b j : Nat}, back ρ σ.length k = some m → own φ' m (reB (back ρ σ.length) B0) b j → own φl k B0 b j := fun h1 h2 => reB_own (hback _ _ h1).symm h2
  have hother : ∀ {m : Nat} {B : Blk} {b k : Nat}, m ∉ ρ → σ[m]? = some B → own φ m B b k → ∀ k', ¬ Owned (ren ρ φ) (bs.map (reB (idxOf ρ))) b k' := fun h1 h2 h3 k' h4 => by
    obtain ⟨m', B', e1, e2, e3⟩ := hloc _ _ h4
    exact hs.sep _ m' _ B' (fun he => h1 (by rw [he]; exact e1)) h2 e2 _ _ k' h3 e3
  have hsim : Sim R' φ' (setAll σ ρ (σl.map (reB (back ρ σ.length))) ++ (σl.map (reB (back ρ σ.length))).drop ρ.length) W' := by
    refine ⟨fun l B e => ?_, fun l l' B B' hne e e' b k k' w w' => ?_, fun l B e b k w hR => ?_, T.sim.old, fun l hl => ?_⟩
    · rcases hget l B e with ⟨k, B0, h1, h2, rfl⟩ | ⟨h1, h2, h3⟩
      · exact reB_ok (fun _ h => h) (Keep.refl (fun _ _ => False) W') hcalm hfro h1 (T.sim.blk k B0 h2) fun _ _ _ h => h
      · exact (hs.blk l B h2).kept T.keep T.hR (fun b k hw => hsl.notR b k hw) (fun b k hw => hother h1 h2 hw k) hx (fun e => h3.trans e)
    · rcases hget l B e with ⟨j, B0, h1, h2, rfl⟩ | ⟨h1, h2, h3⟩
      · have w1 := hown h1 w
        rcases hget l' B' e' with ⟨j', B0', h1', h2', rfl⟩ | ⟨h1', h2', h3'⟩
        · refine T.sim.sep j j' B0 B0' (fun he => hne ?_) h2 h2' b k k' w1 (hown h1' w')
          subst he
          rw [h1] at h1'
          exact Option.some.inj h1'
        · have w2 := (own_ext h3').1 w'
          rcases T.reg b k ⟨j, B0, h2, w1⟩ with h | h
          · exact hother h1' h2' w2 k h
          · have := (hs.blk l' B' h2').owned w2; omega
      · have w1 := (own_ext h3).1 w
        rcases hget l' B' e' with ⟨j', B0', h1', h2', rfl⟩ | ⟨h1', h2', h3'⟩
        · have w2 := hown h1' w'
          rcases T.reg b k' ⟨j', B0', h2', w2⟩ with h | h
          · exact hother h1 h2 w1 k' h
          · have := (hs.blk l B h2).owned w1; omega
        · exact hs.sep l l' B B' hne h2 h2' b k k' w1 ((own_ext h3').1 w')
    · rcases hget l B e with ⟨j, B0, h1, h2, rfl⟩ | ⟨h1, h2, h3⟩
      · exact T.sim.ro j B0 h2 b k (hown h1 w) hR
      · have w1 := (own_ext h3).1 w
        rcases T.hR' b hR with h | h | ⟨k', h⟩
        · exact hs.ro l B h2 b k w1 h
        · have := (hs.blk l B h2).owned w1; omega
        · exact hother h1 h2 w1 k' h
    · simp only [List.length_append, setAll_len, List.length_drop, List.length_map] at hl
      rw [hφ']
      dsimp only
      have : idxOf ρ l = none := by
        cases hi : idxOf ρ l with
        | none => rfl
        | some j => have := hlt _ (List.mem_of_getElem? (idxOf_some hi)); omega
      rw [this]
      dsimp only
      rw [if_neg (by omega)]
      exact T.sim.dom _ (by omega)
  have hsub : ∀ b k, Owned (ren ρ φ) (bs.map (reB (idxOf ρ))) b k → Owned φ σ b k := fun b k hw => by
    obtain ⟨m, B, _, e2, e3⟩ := hloc b k hw
    exact ⟨m, B, e2, e3⟩
  refine ⟨v, R', φ', rfl, ⟨T.hR, fun b hb => ?_, hx, hsim, fun b k ⟨l, B, e, w⟩ => ?_, T.keep.mono hsub⟩, reAV_ok (fun _ h => h) hcalm (fun _ => Nat.le_refl _) hfro hv'⟩
  · rcases T.hR' b hb with h | h | ⟨k, h⟩
    · exact .inl h
    · exact .inr (.inl h)
    · exact .inr (.inr ⟨k, hsub b k h⟩)
  · rcases hget l B e with ⟨j, B0, h1, h2, rfl⟩ | ⟨h1, h2, h3⟩
    · rcases T.reg b k ⟨j, B0, h2, hown h1 w⟩ with h | h
      · exact .inl (hsub b k h)
      · exact .inr h
    · exact .inl ⟨l, B, h2, (own_ext h3).1 w⟩

theorem localCtr_ok {P : Program} {X : Cx} (hX : CxOk P X) {g : Nat} {fn : Func} (hg : P.funcs[g]? = some fn) (hnm : (fn.name == "runtime.NumGoroutine") = false) (hc : fn.body = some (bodyOf fn)) {G : List AV → St → Option (Bool × AV × St)}
    (hG : ∀ args σ u σ', G args σ = some (true, u, σ') → runF X fn args σ u σ') : CtrOk P g (localCtr G) :=
  localCtr_can hX hg hnm hc fun args σ u σ' h => ⟨σ, SameS.refl σ, hG args σ u σ' h⟩

theorem rootsB_congr {σ σ₂ : St} {l : Nat} (h : σ₂[l]? = σ[l]?) : rootsB σ₂[l]? = rootsB σ[l]? := by rw [h]
theorem reach_acc : ∀ {σ : St} (n : Nat) (todo acc : List Nat) (m : Nat), m ∈ acc → m ∈ reach σ n todo acc
  | σ, 0, todo, acc, m, h => h
  | σ, n + 1, [], acc, m, h => h
  | σ, n + 1, l :: todo, acc, m, h => by
    simp only [reach]
    split
    · exact reach_acc n todo acc m h
    · exact reach_acc n _ _ m (List.mem_append_left _ h)
theorem reach_congr : ∀ {σ σ₂ : St} (n : Nat) (todo acc : List Nat), (∀ m ∈ reach σ n todo acc, σ₂[m]? = σ[m]?) → reach σ₂ n todo acc = reach σ n todo acc
  | σ, σ₂, 0, todo, acc, h => rfl
  | σ, σ₂, n + 1, [], acc, h => rfl
  | σ, σ₂, n + 1, l :: todo, acc, h => by
    simp only [reach] at h ⊢
    split
    · rename_i hm
      simp only [hm] at h
      exact reach_congr n todo acc h
    · rename_i hm
      simp only [hm] at h
      have hl := h l (reach_acc n _ _ l (List.mem_append_right _ (List.mem_singleton_self l)))
      rw [hl]
      exact reach_congr n _ _ h
theorem gath_congr {σ σ₂ : St} : ∀ {ρ : List Nat}, (∀ m ∈ ρ, σ₂[m]? = σ[m]?) → gath σ₂ ρ = gath σ ρ
  | [], _ => rfl
  | l :: ρ, h => by
    simp only [gath]
    rw [h l (List.mem_cons_self), gath_congr fun m hm => h m (List.mem_cons_of_mem _ hm)]
theorem localCtr_foot (G : List AV → St → Option (Bool × AV × St)) : CtrFoot footL (localCtr G) := by
  intro args σ c u σ' h
  unfold localCtr at h ⊢
  simp only [normL_eq] at h ⊢
  show _ ∧ _ ∧ _ ∧ ∀ σ₂ : St, σ₂.length = σ.length → (∀ m ∈ reach σ 64 (args.flatMap rootsAV) [], σ₂[m]? = σ[m]?) → reach σ₂ 64 (args.flatMap rootsAV) [] = reach σ 64 (args.flatMap rootsAV) [] ∧ _
  unfold footL
  generalize hρ : reach σ 64 (args.flatMap rootsAV) [] = ρ at h ⊢
  split at h
  case h_2 => cases h
  rename_i bs hbs
  split at h
  case h_2 => cases h
  rename_i c0 u0 σl hG
  split at h
  case h_2 => cases h
  rename_i hcond
  simp only [Option.some.injEq, Prod.mk.injEq] at h
  obtain ⟨rfl, rfl, rfl⟩ := h
  have hcond' := hcond
  simp only [Bool.and_eq_true] at hcond'
  have hnd := nodupB_spec hcond'.1
  have hle := Nat.le_of_ble_eq_true hcond'.2
  obtain ⟨hbl, hbg⟩ := gath_get hbs
  have hlt : ∀ m ∈ ρ, m < σ.length := fun m hm => by
    obtain ⟨k, hk⟩ := List.getElem?_of_mem hm
    obtain ⟨B, e, _⟩ := hbg k m hk
    exact lt_of_get? e
  refine ⟨hlt, by simp [setAll_len], fun m hm hn => ?_, fun σ₂ hn hg => ?_⟩
  · rw [List.getElem?_append_left (by rw [setAll_len]; exact hm), setAll_other ρ _ σ m hn]
  · have hr : reach σ₂ 64 (args.flatMap rootsAV) [] = ρ := by rw [← hρ]; exact reach_congr _ _ _ (by rw [hρ]; exact hg)
    refine ⟨hr, ?_⟩
    simp only [hr, gath_congr hg, hbs, hG, hcond, hn]
    refine ⟨_, rfl, by simp [setAll_len, hn], fun m hm hnm => ?_, fun m hm => ?_⟩
    · rw [List.getElem?_append_left (by rw [setAll_len]; omega), setAll_other ρ _ σ₂ m hnm]
    · rcases hm with hm | hm
      · have hmlt := hlt m hm
        obtain ⟨k, hk⟩ := List.getElem?_of_mem hm
        rw [List.getElem?_append_left (by rw [setAll_len]; omega), List.getElem?_append_left (by rw [setAll_len]; exact hmlt), setAll_at ρ _ σ₂ hnd (by simpa using hle) (fun x hx => by rw [hn]; exact hlt x hx) k m hk, setAll_at ρ _ σ hnd (by simpa using hle) hlt k m hk]
      · rw [List.getElem?_append_right (by rw [setAll_len]; omega), List.getElem?_append_right (by rw [setAll_len]; exact hm), setAll_len, setAll_len, hn]
end Go.Proofs.YtaneamfnjhiigaaDoor.E
