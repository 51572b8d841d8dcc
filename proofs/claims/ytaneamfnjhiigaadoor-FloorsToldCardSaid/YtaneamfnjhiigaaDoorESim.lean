/- The engine, part 2: the relation between an abstract state and a frame in a world, and how it lives on where a root is made or written. -/
import Derived.Test.YtaneamfnjhiigaaDoorEVal
namespace Go.Proofs.YtaneamfnjhiigaaDoor.E
open Go
set_option linter.unusedSimpArgs false
set_option linter.unusedVariables false

theorem own_ext {φ φ' : Phi} {l : Nat} {B : Blk} {b k : Nat} (h : φ' l = φ l) : own φ' l B b k ↔ own φ l B b k := by
  cases B <;> simp [own, h]

theorem Free.keep {F : Nat → Nat → Prop} {W W' : World} (h : Keep F W W') {b : Nat} (hf : Free W b) : Free W' b := by
  obtain ⟨c, T, e⟩ := hf
  obtain ⟨c', e', _⟩ := h.cells b c T _ e
  exact ⟨c', T, e'⟩

theorem Free.lt {W : World} {b : Nat} (h : Free W b) : b < W.heap.size := by
  obtain ⟨c, T, e⟩ := h
  exact (Array.getElem?_eq_some_iff.1 e).1

/-- A block that is not written lives on. -/
theorem BlkOk.kept' {R R' : Nat → Prop} {φ φ' : Phi} {F : Nat → Nat → Prop} {W W' : World} {l : Nat} {B : Blk} (h : BlkOk R φ W l B) (hk : Keep F W W') (hR : ∀ b, R b → R' b) (hc : Calm R W W')
    (ho : ∀ b k, own φ l B b k → ¬ F b k) (hφ : Ext φ φ') (hfr : φ l = none → φ' l = none) : BlkOk R' φ' W' l B := by
  cases B with
  | lit cs =>
    obtain ⟨b, o, e, f, g⟩ := h
    refine ⟨b, o, hφ _ _ e, f.keep hk, fun k u hu => ?_⟩
    obtain ⟨x, hx, hv⟩ := g k u hu
    have hlt : k < cs.length := by
      rcases Nat.lt_or_ge k cs.length with h1 | h1
      · exact h1
      · rw [List.getElem?_eq_none h1] at hu; cases hu
    exact ⟨x, hk.cell (ho b (o + k) ⟨o, e, by omega, by omega⟩) hx, hv.mono hR hc hk.room_le hφ⟩
  | tab sz n get =>
    obtain ⟨z, m, a, g⟩ := h
    refine ⟨z, m, a, ?_⟩
    rcases g with ⟨e, hn⟩ | ⟨b, o, e, f, g⟩
    · exact .inl ⟨hφ _ _ e, hn⟩
    · refine .inr ⟨b, o, hφ _ _ e, f.keep hk, fun k j u hkn hu => ?_⟩
      obtain ⟨x, hx, hv⟩ := g k j u hkn hu
      exact ⟨x, hk.cell (ho b _ ⟨o, e⟩) hx, hv.mono hR hc⟩
  | lrec e =>
    obtain ⟨b, r, h1, h2, h3, h4⟩ := h
    have hlt : b < W.heap.size := by
      rcases Nat.lt_or_ge b W.heap.size with h | h
      · exact h
      · rw [Array.getElem?_eq_none h] at h2; cases h2
    exact ⟨b, r, hφ _ _ h1, by rw [hk.obj b hlt fun k hf => ho b k h1 hf]; exact h2, h3, h4⟩
  | held =>
    obtain ⟨b, r, h1, h2⟩ := h
    obtain ⟨st, pe, h3⟩ := hk.loops b r h2
    exact ⟨b, _, hφ _ _ h1, h3⟩
  | gone => trivial
  | free => exact hfr h

theorem BlkOk.kept {R R' : Nat → Prop} {φ φ' : Phi} {F : Nat → Nat → Prop} {W W' : World} {l : Nat} {B : Blk} (h : BlkOk R φ W l B) (hk : Keep F W W') (hR : ∀ b, R b → R' b) (hF : ∀ b k, F b k → ¬ R b)
    (ho : ∀ b k, own φ l B b k → ¬ F b k) (hφ : Ext φ φ') (hfr : φ l = none → φ' l = none) : BlkOk R' φ' W' l B := h.kept' hk hR (hk.calm hF) ho hφ hfr

theorem BlkOk.owned {R : Nat → Prop} {φ : Phi} {W : World} {l : Nat} {B : Blk} (h : BlkOk R φ W l B) {b k : Nat} (hw : own φ l B b k) : b < W.heap.size := by
  cases B with
  | lit cs => obtain ⟨o, e1, _⟩ := hw; obtain ⟨b', o', e2, fr, _⟩ := h; rw [e1] at e2; obtain ⟨rfl, rfl⟩ := Prod.mk.inj (Option.some.inj (Option.some.inj e2)); exact fr.lt
  | tab sz n get =>
    obtain ⟨o, e1⟩ := hw
    obtain ⟨_, _, _, hb⟩ := h
    rcases hb with ⟨e2, _⟩ | ⟨b', o', e2, fr, _⟩
    · rw [e1] at e2; cases e2
    · rw [e1] at e2; obtain ⟨rfl, rfl⟩ := Prod.mk.inj (Option.some.inj (Option.some.inj e2)); exact fr.lt
  | lrec e =>
    obtain ⟨b', r, h1, h2, _⟩ := h
    have e1 : φ l = some (some (b, 0)) := hw
    rw [h1] at e1
    obtain ⟨rfl, _⟩ := Prod.mk.inj (Option.some.inj (Option.some.inj e1))
    rcases Nat.lt_or_ge b' W.heap.size with h | h
    · exact h
    · rw [Array.getElem?_eq_none h] at h2; cases h2
  | held =>
    obtain ⟨b', r, h1, h2⟩ := h
    have e1 : φ l = some (some (b, 0)) := hw
    rw [h1] at e1
    obtain ⟨rfl, _⟩ := Prod.mk.inj (Option.some.inj (Option.some.inj e1))
    rcases Nat.lt_or_ge b' W.heap.size with h | h
    · exact h
    · rw [Array.getElem?_eq_none h] at h2; cases h2
  | gone => exact hw.elim
  | free => exact hw.elim

theorem BlkOk.known {R : Nat → Prop} {φ : Phi} {W : World} {l : Nat} {B : Blk} (h : BlkOk R φ W l B) : B = .gone ∨ B = .free ∨ ∃ p, φ l = some p := by
  cases B with
  | lit cs => obtain ⟨b, o, e, _⟩ := h; exact .inr (.inr ⟨_, e⟩)
  | tab sz n get => obtain ⟨_, _, _, hb⟩ := h; rcases hb with ⟨e, _⟩ | ⟨b, o, e, _⟩ <;> exact .inr (.inr ⟨_, e⟩)
  | lrec e => obtain ⟨b, r, e, _⟩ := h; exact .inr (.inr ⟨_, e⟩)
  | held => obtain ⟨b, r, e, _⟩ := h; exact .inr (.inr ⟨_, e⟩)
  | gone => exact .inl rfl
  | free => exact .inr (.inl rfl)

/-- An abstract state, a frame, a world. F0: the cells that belonged to the roots at the beginning, in the world W0. -/
structure Rel (F0 : Nat → Nat → Prop) (W0 : World) (R : Nat → Prop) (φ : Phi) (σ : St) (f : List AV) (tmps : Array Value) (W : World) : Prop where
  sim : Sim R φ σ W
  fr : ∀ (t : Nat) (u : AV), f[t]? = some u → VR R φ W u (tmps.getD t undef)
  reg : ∀ (l : Nat) (B : Blk), σ[l]? = some B → ∀ b k, own φ l B b k → F0 b k ∨ W0.heap.size ≤ b
  keep : Keep F0 W0 W
  len : f.length = tmps.size

/-- A root is made, or written, or takes over what another one had: the root l has the block B' from now on. What is written, and what it takes over, was src's. -/
theorem Rel.turn {F0 : Nat → Nat → Prop} {W0 : World} {R : Nat → Prop} {φ φ' : Phi} {σ : St} {f : List AV} {tmps : Array Value} {W W' : World} (h : Rel F0 W0 R φ σ f tmps W)
    {l src : Nat} {B' : Blk} {G : Nat → Nat → Prop} (hk : Keep G W W') (hφ : Ext φ φ') (hφ0 : ∀ m, m ≠ l → φ m = none → φ' m = none)
    (hG : ∀ b k, G b k → ∃ B, σ[src]? = some B ∧ own φ src B b k)
    (hB : BlkOk R φ' W' l B') (ho : ∀ b k, own φ' l B' b k → (∃ B, σ[src]? = some B ∧ own φ src B b k) ∨ W.heap.size ≤ b)
    {σ' : St} (hσ : ∀ m B, σ'[m]? = some B → (m = l ∧ B = B') ∨ B = .gone ∨ (m ≠ src ∧ m ≠ l ∧ σ[m]? = some B)) (hdom : ∀ m, σ'.length ≤ m → φ' m = none) : Rel F0 W0 R φ' σ' f tmps W' := by
  have hGR : ∀ b k, G b k → ¬ R b := fun b k hg => by
    obtain ⟨B, e, hw⟩ := hG b k hg
    exact h.sim.ro src B e b k hw
  have hGne : ∀ m B, σ[m]? = some B → m ≠ src → ∀ b k, own φ m B b k → ¬ G b k := fun m B e hm b k hw hg => by
    obtain ⟨B1, e1, hw1⟩ := hG b k hg
    exact h.sim.sep m src B B1 hm e e1 b k k hw hw1
  -- what an old root owns, it owned
  have hold : ∀ m B, σ[m]? = some B → ∀ b k, own φ' m B b k → own φ m B b k := fun m B e b k hw => by
    rcases (h.sim.blk m B e).known with rfl | rfl | ⟨p, hp⟩
    · exact hw.elim
    · exact hw.elim
    · exact (own_ext ((hφ _ _ hp).trans hp.symm)).1 hw
  refine ⟨⟨?_, ?_, ?_, ?_, hdom⟩, ?_, ?_, ?_, h.len⟩
  · intro m B e
    rcases hσ m B e with ⟨rfl, rfl⟩ | rfl | ⟨hm, hml, e0⟩
    · exact hB
    · trivial
    · exact (h.sim.blk m B e0).kept hk (fun _ hb => hb) hGR (hGne m B e0 hm) hφ (hφ0 m hml)
  · intro m m' B1 B2 hne e1 e2 b k k' w1 w2
    rcases hσ m B1 e1 with ⟨rfl, rfl⟩ | rfl | ⟨hm, hm2, e3⟩
    · rcases hσ m' B2 e2 with ⟨rfl, rfl⟩ | rfl | ⟨hm', hm2', e4⟩
      · exact hne rfl
      · exact w2.elim
      · have w4 := hold m' B2 e4 b k' w2
        rcases ho b k w1 with ⟨B5, e5, w5⟩ | hle
        · exact h.sim.sep src m' B5 B2 (Ne.symm hm') e5 e4 b k k' w5 w4
        · have := (h.sim.blk m' B2 e4).owned w4; omega
    · exact w1.elim
    · have w3 := hold m B1 e3 b k w1
      rcases hσ m' B2 e2 with ⟨rfl, rfl⟩ | rfl | ⟨hm', hm2', e4⟩
      · rcases ho b k' w2 with ⟨B5, e5, w5⟩ | hle
        · exact h.sim.sep m src B1 B5 hm e3 e5 b k k' w3 w5
        · have := (h.sim.blk m B1 e3).owned w3; omega
      · exact w2.elim
      · exact h.sim.sep m m' B1 B2 hne e3 e4 b k k' w3 (hold m' B2 e4 b k' w2)
  · intro m B e b k w hR
    rcases hσ m B e with ⟨rfl, rfl⟩ | rfl | ⟨hm, hm2, e3⟩
    · rcases ho b k w with ⟨B4, e4, w4⟩ | hle
      · exact h.sim.ro src B4 e4 b k w4 hR
      · have := h.sim.old b hR; omega
    · exact w.elim
    · exact h.sim.ro m B e3 b k (hold m B e3 b k w) hR
  · exact h.sim.old.keep hk.size (hk.calm hGR)
  · intro t u hu
    exact (h.fr t u hu).mono (fun _ hb => hb) (hk.calm hGR) hk.room_le hφ
  · intro m B e b k w
    rcases hσ m B e with ⟨rfl, rfl⟩ | rfl | ⟨hm, hm2, e3⟩
    · rcases ho b k w with ⟨B4, e4, w4⟩ | hle
      · exact h.reg src B4 e4 b k w4
      · exact .inr (Nat.le_trans h.keep.size hle)
    · exact w.elim
    · exact h.reg m B e3 b k (hold m B e3 b k w)
  · exact h.keep.trans hk fun b k hg => by
      obtain ⟨B, e, hw⟩ := hG b k hg
      exact h.reg src B e b k hw

/-- A slot is written. -/
theorem Rel.put {F0 : Nat → Nat → Prop} {W0 : World} {R : Nat → Prop} {φ : Phi} {σ : St} {f : List AV} {tmps : Array Value} {W : World} (h : Rel F0 W0 R φ σ f tmps W)
    {u : AV} {x : Value} (hv : VR R φ W u x) (d : Nat) : Rel F0 W0 R φ σ (f.set d u) (tmps.setIfInBounds d x) W :=
  ⟨h.sim, fun t w hw => by
    by_cases ht : t = d
    · subst ht
      have hlt : t < f.length := by
        rcases Nat.lt_or_ge t f.length with h1 | h1
        · exact h1
        · rw [List.getElem?_eq_none (by simpa using h1)] at hw; cases hw
      have h2 := h.len
      rw [List.getElem?_set_self hlt] at hw
      obtain rfl := Option.some.inj hw
      have : (tmps.setIfInBounds t x).getD t undef = x := by simp [Array.getD, h2 ▸ hlt]
      rw [this]; exact hv
    · rw [List.getElem?_set_ne (Ne.symm ht)] at hw
      have : (tmps.setIfInBounds d x).getD t undef = tmps.getD t undef := by
        simp only [Array.getD_eq_getD_getElem?]
        rw [Array.getElem?_setIfInBounds_ne (Ne.symm ht)]
      rw [this]; exact h.fr t w hw, h.reg, h.keep, by simpa using h.len⟩
end Go.Proofs.YtaneamfnjhiigaaDoor.E
