/- The engine, part 19: a state that says no more than another one: roots are named anew, forgotten, or frozen. -/
import Derived.Test.YtaneamfnjhiigaaDoorEDraw
namespace Go.Proofs.YtaneamfnjhiigaaDoor.E
open Go
set_option linter.unusedSimpArgs false
set_option linter.unusedVariables false

/-- Where the roots that are named anew lie. -/
def ren (ρ : List Nat) (φ : Phi) : Phi := fun l => match ρ[l]? with | some m => φ m | none => none

/-- What is no more than what was: ρ are the roots that are kept; one that isn't kept is not written any more. -/
inductive Fit (ρ : List Nat) (σ : St) : AV → AV → Prop
  | dead (u : AV) : Fit ρ σ .dead u
  | v (x : Value) : Fit ρ σ (.v x) (.v x)
  | p {l m off : Nat} (h : ρ[l]? = some m) : Fit ρ σ (.p l off) (.p m off)
  | q {l m sz i j : Nat} (h : ρ[l]? = some m) : Fit ρ σ (.q l sz i j) (.q m sz i j)
  | s {l m sz o n : Nat} (h : ρ[l]? = some m) : Fit ρ σ (.s l sz o n) (.s m sz o n)
  | y {l m : Nat} (h : ρ[l]? = some m) : Fit ρ σ (.y l) (.y m)
  | i {sz n : Nat} {g0 g : Nat → List AV} (hg : ∀ k, k < n → g0 k = g k) : Fit ρ σ (.i sz n g0) (.i sz n g)
  | ip {cs : List AV} {j : Nat} : Fit ρ σ (.ip cs j) (.ip cs j)
  | z : Fit ρ σ .z .z
  | ii {sz n : Nat} {g0 g : Nat → List AV} (hl : ∀ k, k < n → (g0 k).length = (g k).length) (hx : ∀ k, k < n → ∀ (j : Nat) (u0 u : AV), (g0 k)[j]? = some u0 → (g k)[j]? = some u → Fit ρ σ u0 u) (hp : ∀ k, k < n → ∀ u ∈ g0 k, pureCell u = true) : Fit ρ σ (.i sz n g0) (.i sz n g)
  | ni {sz : Nat} {g : Nat → List AV} : Fit ρ σ (.i sz 0 g) (.v (.slice none 0 0))
  | zi {sz : Nat} {g : Nat → List AV} : Fit ρ σ (.i sz 0 g) .z
  | fz {m sz o n n' : Nat} {g0 g : Nat → List AV} (h : σ[m]? = some (.tab sz n' g)) (hm : m ∉ ρ) (hn : o + n ≤ n') (hg : ∀ k, k < n → g0 k = g (o + k)) : Fit ρ σ (.i sz n g0) (.s m sz o n)
  | fzl {m sz o n : Nat} {g0 : Nat → List AV} {cs : List AV} (h : σ[m]? = some (.lit cs)) (hm : m ∉ ρ) (hp : cs.all pureCell = true) (hs : 0 < sz) (hn : (o + n) * sz ≤ cs.length) (hb : n * sz < 281474976710656) (hg : ∀ k, k < n → g0 k = (cs.drop ((o + k) * sz)).take sz) : Fit ρ σ (.i sz n g0) (.s m sz o n)
  | fzd {m sz o n : Nat} {g0 : Nat → List AV} {cs cs0 : List AV} (h : σ[m]? = some (.lit cs)) (hm : m ∉ ρ) (hl : cs0.length = cs.length) (hx : ∀ (k : Nat) (u0 u : AV), cs0[k]? = some u0 → cs[k]? = some u → Fit ρ σ u0 u) (hp : cs0.all pureCell = true) (hs : 0 < sz) (hn : (o + n) * sz ≤ cs0.length) (hb : n * sz < 281474976710656) (hg : ∀ k, k < n → g0 k = (cs0.drop ((o + k) * sz)).take sz) : Fit ρ σ (.i sz n g0) (.s m sz o n)
  | fzpd {m off : Nat} {cs cs0 : List AV} (h : σ[m]? = some (.lit cs)) (hm : m ∉ ρ) (hl : cs0.length = cs.length) (hx : ∀ (k : Nat) (u0 u : AV), cs0[k]? = some u0 → cs[k]? = some u → Fit ρ σ u0 u) (hp : cs0.all pureCell = true) (hne : cs0 ≠ []) : Fit ρ σ (.ip cs0 off) (.p m off)
  | fzp {m off : Nat} {cs : List AV} (h : σ[m]? = some (.lit cs)) (hm : m ∉ ρ) (hp : cs.all pureCell = true) (hne : cs ≠ []) : Fit ρ σ (.ip cs off) (.p m off)
  | a {us0 us : List AV} (hl : us0.length = us.length) (hx : ∀ (k : Nat) (u0 u : AV), us0[k]? = some u0 → us[k]? = some u → Fit ρ σ u0 u) : Fit ρ σ (.a us0) (.a us)
  | t {us0 us : List AV} (hl : us0.length = us.length) (hx : ∀ (k : Nat) (u0 u : AV), us0[k]? = some u0 → us[k]? = some u → Fit ρ σ u0 u) : Fit ρ σ (.t us0) (.t us)
  | f {fn : Fn} {us0 us cs0 cs : List AV} (hl' : us0.length = us.length) (hx' : ∀ (k : Nat) (u0 u : AV), us0[k]? = some u0 → us[k]? = some u → Fit ρ σ u0 u)
      (hl : cs0.length = cs.length) (hx : ∀ (k : Nat) (u0 u : AV), cs0[k]? = some u0 → cs[k]? = some u → Fit ρ σ u0 u) : Fit ρ σ (.f fn us0 cs0) (.f fn us cs)

/-- The blocks that are not written any more. -/
def more (ρ : List Nat) (σ : St) (φ : Phi) (R : Nat → Prop) (b : Nat) : Prop := R b ∨ ∃ m B k, m ∉ ρ ∧ σ[m]? = some B ∧ own φ m B b k

theorem get?_of_lt {α : Type} {l : List α} {k : Nat} (h : k < l.length) : ∃ u, l[k]? = some u := ⟨_, List.getElem?_eq_getElem h⟩
theorem lt_of_get? {α : Type} {l : List α} {k : Nat} {u : α} (h : l[k]? = some u) : k < l.length := by
  rcases Nat.lt_or_ge k l.length with h1 | h1
  · exact h1
  · rw [List.getElem?_eq_none h1] at h; cases h

theorem lits {R : Nat → Prop} {φ : Phi} {W : World} {m : Nat} {cs : List AV} (h : BlkOk R φ W m (.lit cs)) (hp : cs.all pureCell = true) : ∃ b o, φ m = some (some (b, o)) ∧ Free W b ∧ ∃ x : Nat → Value, ∀ k u, cs[k]? = some u → W.cell? ⟨b, o + k, none⟩ = some (x k) ∧ CR R W u (x k) := by
  obtain ⟨b, o, e, fr, g⟩ := h
  refine ⟨b, o, e, fr, fun k => (W.cell? ⟨b, o + k, none⟩).getD undef, fun k u hu => ?_⟩
  obtain ⟨x, hx, hv⟩ := g k u hu
  refine ⟨by simp [hx], ?_⟩
  have : (W.cell? ⟨b, o + k, none⟩).getD undef = x := by rw [hx]; rfl
  show CR R W u ((W.cell? ⟨b, o + k, none⟩).getD undef)
  rw [this]
  exact pureCell_ok hv (List.all_eq_true.1 hp u (List.mem_of_getElem? hu))

theorem Fit.ok {ρ : List Nat} {σ : St} {R : Nat → Prop} {φ : Phi} {W : World} (hs : Sim R φ σ W) {u0 u : AV} (h : Fit ρ σ u0 u) : ∀ {x : Value}, VR R φ W u x → VR (more ρ σ φ R) (ren ρ φ) W u0 x := by
  have hR : ∀ b, R b → more ρ σ φ R b := fun b h => .inl h
  have calm : Calm R W W := fun _ _ _ _ h => h
  have hren : ∀ {l m : Nat}, ρ[l]? = some m → ren ρ φ l = φ m := fun h => by simp only [ren, h]
  induction h with
  | dead u => intro x _; exact .dead x
  | v y => intro x hx; rw [hx.val]; exact .imm (.v _)
  | p h =>
    intro x hx
    cases hx with
    | imm hi => cases hi
    | p h' => exact .p (by rw [hren h]; exact h')
  | q h =>
    intro x hx
    cases hx with
    | imm hi => cases hi
    | q h' => exact .q (by rw [hren h]; exact h')
  | y h =>
    intro x hx
    cases hx with
    | imm hi => cases hi
    | y h' => exact .y (by rw [hren h]; exact h')
  | s h =>
    intro x hx
    cases hx with
    | imm hi => cases hi
    | nil h' => exact .nil (by rw [hren h]; exact h')
    | z h' => exact .z (by rw [hren h]; exact h')
    | s h' hn hr => exact .s (by rw [hren h]; exact h') hn hr
  | i hg =>
    intro x hx
    cases hx with
    | imm hi =>
      cases hi with
      | nil => exact .imm (.nil _ _ _ _)
      | i y hb hn hl hc hx hsc hs hm =>
        exact .imm (.i y (hR _ hb) hn (fun k hk => by rw [hg k hk]; exact hl k hk) (fun k j u hk hu => hc k j u hk (by rw [← hg k hk]; exact hu))
          (fun k j u hk hu => (hx k j u hk (by rw [← hg k hk]; exact hu)).mono hR calm) (fun k j u hk hu => hsc k j u hk (by rw [← hg k hk]; exact hu)) hs hm)
  | ip =>
    intro x hx
    cases hx with
    | imm hi => exact .imm (hi.mono hR calm)
  | z =>
    intro x hx
    cases hx with
    | imm hi => exact .imm (hi.mono hR calm)
  | @ii sz n g0 g hl hxx hp ih =>
    intro x hx
    cases hx with
    | imm hi =>
      cases hi with
      | nil => exact .imm (.nil _ _ _ _)
      | i y hb hn hlen hc hy hsc hs0 hm =>
        have cell : ∀ k j u0, k < n → (g0 k)[j]? = some u0 → ∃ u, (g k)[j]? = some u := fun k j u0 hk hu => get?_of_lt (by rw [← hl k hk]; exact lt_of_get? hu)
        refine .imm (.i y (hR _ hb) hn (fun k hk => by rw [hl k hk]; exact hlen k hk) (fun k j u hk hu => ?_) (fun k j u hk hu => ?_) (fun k j u hk hu => ?_) hs0 hm)
        · obtain ⟨u1, hu1⟩ := cell k j u hk hu
          exact hc k j u1 hk hu1
        · obtain ⟨u1, hu1⟩ := cell k j u hk hu
          exact (pureCell_ok (ih k hk j u u1 hu hu1 (.imm (hy k j u1 hk hu1))) (hp k hk u (List.mem_of_getElem? hu))).1
        · obtain ⟨u1, hu1⟩ := cell k j u hk hu
          exact hsc k j u1 hk hu1
  | ni =>
    intro x hx
    rw [hx.val]
    exact .imm (.nil _ _ _ _)
  | zi =>
    intro x hx
    cases hx with
    | imm hi => cases hi with
      | z a => exact .imm (.nil _ _ _ _)
  | @fz m sz o n n' g0 g h hm hn hg =>
    intro x hx
    obtain ⟨hz, hm', hlen, hblk⟩ := hs.blk m _ h
    have hnil : n = 0 → ∀ a cap, VR (more ρ σ φ R) (ren ρ φ) W (.i sz n g0) (.slice a 0 cap) := fun h0 a cap => by subst h0; exact .imm (.nil _ _ _ _)
    cases hx with
    | imm hi => cases hi
    | nil h' => exact hnil rfl _ _
    | z h' => exact hnil rfl _ _
    | s h' hn' hr =>
      rcases hblk with ⟨e, _⟩ | ⟨b, f, e, fr, g'⟩
      · rw [e] at h'; cases h'
      · rw [e] at h'
        obtain ⟨rfl, rfl⟩ := Prod.mk.inj (Option.some.inj (Option.some.inj h'))
        have cells : ∀ k j u, k < n → (g (o + k))[j]? = some u → W.cell? ⟨b, f + o * sz + (k * sz + j), none⟩ = some ((W.cell? ⟨b, f + o * sz + (k * sz + j), none⟩).getD undef) ∧ CR R W u ((W.cell? ⟨b, f + o * sz + (k * sz + j), none⟩).getD undef) := fun k j u hk hu => by
          obtain ⟨y, e1, e2⟩ := g' (o + k) j u (by omega) hu
          have : f + ((o + k) * sz + j) = f + o * sz + (k * sz + j) := by rw [Nat.add_mul]; omega
          rw [this] at e1
          rw [e1]
          exact ⟨rfl, e2⟩
        refine .imm (.i (fun k j => (W.cell? ⟨b, f + o * sz + (k * sz + j), none⟩).getD undef) (.inr ⟨m, _, 0, hm, h, _, e⟩) hn' (fun k hk => by rw [hg k hk]; exact hlen _ (by omega))
          (fun k j u hk hu => (cells k j u hk (by rw [← hg k hk]; exact hu)).1) (fun k j u hk hu => ((cells k j u hk (by rw [← hg k hk]; exact hu)).2.1).mono hR calm)
          (fun k j u hk hu => (cells k j u hk (by rw [← hg k hk]; exact hu)).2.2) hz ?_)
        exact Nat.lt_of_le_of_lt (Nat.mul_le_mul_right sz (by omega : n ≤ n')) hm'
  | @fzl m sz o n g0 cs h hm hp hz hn hb hg =>
    intro x hx
    obtain ⟨b, f, e, fr, y, hy⟩ := lits (hs.blk m _ h) hp
    cases hx with
    | imm hi => cases hi
    | nil h' => exact .imm (.nil _ _ _ _)
    | z h' => exact .imm (.nil _ _ _ _)
    | s h' hn' hr =>
      rw [e] at h'
      obtain ⟨rfl, rfl⟩ := Prod.mk.inj (Option.some.inj (Option.some.inj h'))
      have hin : ∀ k, k < n → (o + k) * sz + sz ≤ cs.length := fun k hk => by
        have : (o + k + 1) * sz ≤ (o + n) * sz := Nat.mul_le_mul_right sz (by omega)
        rw [Nat.add_mul (o + k)] at this
        omega
      have cells : ∀ k j u, k < n → (g0 k)[j]? = some u → W.cell? ⟨b, f + o * sz + (k * sz + j), none⟩ = some (y ((o + k) * sz + j)) ∧ CR R W u (y ((o + k) * sz + j)) := fun k j u hk hu => by
        rw [hg k hk] at hu
        have hj : j < sz := by have := lt_of_get? hu; rw [List.length_take] at this; omega
        rw [List.getElem?_take_of_lt hj, List.getElem?_drop] at hu
        have := hy _ u hu
        have e2 : f + ((o + k) * sz + j) = f + o * sz + (k * sz + j) := by rw [Nat.add_mul]; omega
        rw [e2] at this
        exact this
      by_cases h0 : n = 0
      · subst h0; exact .imm (.nil _ _ _ _)
      · have hpos : 0 < cs.length := by have := hin 0 (by omega); omega
        refine .imm (.i (fun k j => y ((o + k) * sz + j)) (.inr ⟨m, _, f, hm, h, _, e, Nat.le_refl _, by omega⟩) hn' (fun k hk => ?_) (fun k j u hk hu => (cells k j u hk hu).1) (fun k j u hk hu => ((cells k j u hk hu).2.1).mono hR calm) (fun k j u hk hu => (cells k j u hk hu).2.2) hz hb)
        rw [hg k hk, List.length_take, List.length_drop]
        have := hin k hk
        omega
  | @fzd m sz o n g0 cs cs0 h hm hl hxx hp hz hn hb hg ih =>
    intro x hx
    obtain ⟨b, f, e, fr, gg⟩ := hs.blk m _ h
    have hy : ∀ k u, cs0[k]? = some u → W.cell? ⟨b, f + k, none⟩ = some ((W.cell? ⟨b, f + k, none⟩).getD undef) ∧ CR (more ρ σ φ R) W u ((W.cell? ⟨b, f + k, none⟩).getD undef) := fun k u hu => by
      obtain ⟨u1, hu1⟩ := get?_of_lt (l := cs) (k := k) (by rw [← hl]; exact lt_of_get? hu)
      obtain ⟨y, hy1, hy2⟩ := gg k u1 hu1
      rw [hy1]
      exact ⟨rfl, pureCell_ok (ih k u u1 hu hu1 hy2) (List.all_eq_true.1 hp u (List.mem_of_getElem? hu))⟩
    generalize hyy : (fun k => (W.cell? ⟨b, f + k, none⟩).getD undef) = y at hy
    have hy : ∀ k u, cs0[k]? = some u → W.cell? ⟨b, f + k, none⟩ = some (y k) ∧ CR (more ρ σ φ R) W u (y k) := fun k u hu => by rw [← hyy]; exact hy k u hu
    cases hx with
    | imm hi => cases hi
    | nil h' => exact .imm (.nil _ _ _ _)
    | z h' => exact .imm (.nil _ _ _ _)
    | s h' hn' hr =>
      rw [e] at h'
      obtain ⟨rfl, rfl⟩ := Prod.mk.inj (Option.some.inj (Option.some.inj h'))
      have hin : ∀ k, k < n → (o + k) * sz + sz ≤ cs0.length := fun k hk => by
        have : (o + k + 1) * sz ≤ (o + n) * sz := Nat.mul_le_mul_right sz (by omega)
        rw [Nat.add_mul (o + k)] at this
        omega
      have cells : ∀ k j u, k < n → (g0 k)[j]? = some u → W.cell? ⟨b, f + o * sz + (k * sz + j), none⟩ = some (y ((o + k) * sz + j)) ∧ CR (more ρ σ φ R) W u (y ((o + k) * sz + j)) := fun k j u hk hu => by
        rw [hg k hk] at hu
        have hj : j < sz := by have := lt_of_get? hu; rw [List.length_take] at this; omega
        rw [List.getElem?_take_of_lt hj, List.getElem?_drop] at hu
        have := hy _ u hu
        have e2 : f + ((o + k) * sz + j) = f + o * sz + (k * sz + j) := by rw [Nat.add_mul]; omega
        rw [e2] at this
        exact this
      by_cases h0 : n = 0
      · subst h0; exact .imm (.nil _ _ _ _)
      · have hpos : 0 < cs.length := by have := hin 0 (by omega); omega
        refine .imm (.i (fun k j => y ((o + k) * sz + j)) (.inr ⟨m, _, f, hm, h, _, e, Nat.le_refl _, by omega⟩) hn' (fun k hk => ?_) (fun k j u hk hu => (cells k j u hk hu).1) (fun k j u hk hu => (cells k j u hk hu).2.1) (fun k j u hk hu => (cells k j u hk hu).2.2) hz hb)
        rw [hg k hk, List.length_take, List.length_drop]
        have := hin k hk
        omega
  | @fzpd m off cs cs0 h hm hl hxx hp hne ih =>
    intro x hx
    obtain ⟨b, f, e, fr, gg⟩ := hs.blk m _ h
    have hy : ∀ k u, cs0[k]? = some u → W.cell? ⟨b, f + k, none⟩ = some ((W.cell? ⟨b, f + k, none⟩).getD undef) ∧ CR (more ρ σ φ R) W u ((W.cell? ⟨b, f + k, none⟩).getD undef) := fun k u hu => by
      obtain ⟨u1, hu1⟩ := get?_of_lt (l := cs) (k := k) (by rw [← hl]; exact lt_of_get? hu)
      obtain ⟨y, hy1, hy2⟩ := gg k u1 hu1
      rw [hy1]
      exact ⟨rfl, pureCell_ok (ih k u u1 hu hu1 hy2) (List.all_eq_true.1 hp u (List.mem_of_getElem? hu))⟩
    cases hx with
    | imm hi => cases hi
    | p h' =>
      rw [e] at h'
      obtain ⟨rfl, rfl⟩ := Prod.mk.inj (Option.some.inj (Option.some.inj h'))
      have hpos : 0 < cs0.length := List.length_pos_iff.2 hne
      exact .imm (.ip (fun k => (W.cell? ⟨b, f + k, none⟩).getD undef) (.inr ⟨m, _, f, hm, h, _, e, Nat.le_refl _, by omega⟩) (fun k u hu => (hy k u hu).1) fun k u hu => (hy k u hu).2.1)
  | @fzp m off cs h hm hp hne =>
    intro x hx
    obtain ⟨b, f, e, fr, y, hy⟩ := lits (hs.blk m _ h) hp
    cases hx with
    | imm hi => cases hi
    | p h' =>
      rw [e] at h'
      obtain ⟨rfl, rfl⟩ := Prod.mk.inj (Option.some.inj (Option.some.inj h'))
      have hpos : 0 < cs.length := List.length_pos_iff.2 hne
      exact .imm (.ip y (.inr ⟨m, _, f, hm, h, _, e, Nat.le_refl _, by omega⟩) (fun k u hu => (hy k u hu).1) fun k u hu => ((hy k u hu).2.1).mono hR calm)
  | a hl hx ih =>
    intro x hx'
    obtain ⟨vs, rfl, hl2, hr⟩ := hx'.agg
    refine .a (hl.trans hl2) fun k u0 y hu0 hy => ?_
    obtain ⟨u, hu⟩ := get?_of_lt (by rw [← hl]; exact lt_of_get? hu0)
    exact ih k u0 u hu0 hu (hr k u y hu hy)
  | t hl hx ih =>
    intro x hx'
    obtain ⟨vs, rfl, hl2, hr⟩ := hx'.tup
    refine .t (hl.trans hl2) fun k u0 y hu0 hy => ?_
    obtain ⟨u, hu⟩ := get?_of_lt (by rw [← hl]; exact lt_of_get? hu0)
    exact ih k u0 u hu0 hu (hr k u y hu hy)
  | f hl' hx' hl hx ih' ih =>
    intro x hv
    cases hv with
    | imm hi => cases hi
    | f el' er' el er =>
      refine .f (hl'.trans el') (fun k u0 y hu0 hy => ?_) (hl.trans el) fun k u0 y hu0 hy => ?_
      · obtain ⟨u, hu⟩ := get?_of_lt (by rw [← hl']; exact lt_of_get? hu0)
        exact ih' k u0 u hu0 hu (er' k u y hu hy)
      · obtain ⟨u, hu⟩ := get?_of_lt (by rw [← hl]; exact lt_of_get? hu0)
        exact ih k u0 u hu0 hu (er k u y hu hy)

/-- A frame's slots, or cells, one by one. -/
def FitL (ρ : List Nat) (σ : St) : List AV → List AV → Prop
  | [], [] => True
  | u0 :: l0, u :: l => Fit ρ σ u0 u ∧ FitL ρ σ l0 l
  | _, _ => False
theorem FitL.len {ρ : List Nat} {σ : St} : ∀ {l0 l : List AV}, FitL ρ σ l0 l → l0.length = l.length
  | [], [], _ => rfl
  | _ :: _, _ :: _, h => by simp [FitL.len h.2]
  | [], _ :: _, h => h.elim
  | _ :: _, [], h => h.elim
theorem FitL.get {ρ : List Nat} {σ : St} : ∀ {l0 l : List AV}, FitL ρ σ l0 l → ∀ (k : Nat) (u0 u : AV), l0[k]? = some u0 → l[k]? = some u → Fit ρ σ u0 u
  | [], _, _, k, u0, u, h0, _ => by simp at h0
  | _ :: _, _ :: _, h, 0, u0, u, h0, h1 => by simp at h0 h1; subst h0 h1; exact h.1
  | _ :: _, _ :: _, h, k + 1, u0, u, h0, h1 => FitL.get h.2 k u0 u (by simpa using h0) (by simpa using h1)
  | _ :: _, [], h, _, _, _, _, _ => h.elim
theorem Fit.al {ρ : List Nat} {σ : St} {l0 l : List AV} (h : FitL ρ σ l0 l) : Fit ρ σ (.a l0) (.a l) := .a h.len h.get
theorem Fit.tl {ρ : List Nat} {σ : St} {l0 l : List AV} (h : FitL ρ σ l0 l) : Fit ρ σ (.t l0) (.t l) := .t h.len h.get
theorem Fit.fl {ρ : List Nat} {σ : St} {fn : Fn} {l0 l c0 c : List AV} (h : FitL ρ σ l0 l) (h' : FitL ρ σ c0 c) : Fit ρ σ (.f fn l0 c0) (.f fn l c) := .f h.len h.get h'.len h'.get
theorem Fit.v' {ρ : List Nat} {σ : St} {x0 x : Value} (h : x0 = x) : Fit ρ σ (.v x0) (.v x) := h ▸ .v x0

/-- Blocks. -/
inductive FitB (ρ : List Nat) (σ : St) : Blk → Blk → Prop
  | gone (B : Blk) : FitB ρ σ .gone B
  | lit {l0 l : List AV} (h : FitL ρ σ l0 l) : FitB ρ σ (.lit l0) (.lit l)
  | tab {sz n : Nat} {g0 g : Nat → List AV} (h : ∀ k, k < n → g0 k = g k) : FitB ρ σ (.tab sz n g0) (.tab sz n g)
  | lrec (e : Ex) : FitB ρ σ (.lrec e) (.lrec e)
  | held : FitB ρ σ .held .held
def FitS (ρ : List Nat) (σ : St) : List Nat → St → Prop
  | [], [] => True
  | m :: ms, B0 :: Bs => (∃ B, σ[m]? = some B ∧ FitB ρ σ B0 B) ∧ FitS ρ σ ms Bs
  | _, _ => False
theorem FitS.len {ρ : List Nat} {σ : St} : ∀ {ms : List Nat} {s : St}, FitS ρ σ ms s → ms.length = s.length
  | [], [], _ => rfl
  | _ :: _, _ :: _, h => by simp [FitS.len h.2]
  | [], _ :: _, h => h.elim
  | _ :: _, [], h => h.elim
theorem FitS.get {ρ : List Nat} {σ : St} : ∀ {ms : List Nat} {s : St}, FitS ρ σ ms s → ∀ (k : Nat) (B0 : Blk), s[k]? = some B0 → ∃ m B, ms[k]? = some m ∧ σ[m]? = some B ∧ FitB ρ σ B0 B
  | [], [], _, k, B0, h0 => by simp at h0
  | m :: ms, B1 :: s, h, 0, B0, h0 => by simp at h0; subst h0; obtain ⟨B, e, g⟩ := h.1; exact ⟨m, B, rfl, e, g⟩
  | m :: ms, B1 :: s, h, k + 1, B0, h0 => by obtain ⟨m', B, e1, e2, e3⟩ := FitS.get h.2 k B0 (by simpa using h0); exact ⟨m', B, by simpa using e1, e2, e3⟩
  | [], _ :: _, h, _, _, _ => h.elim
  | _ :: _, [], h, _, _, _ => h.elim

/-- The state (f0, σ0) says no more than (f, σ). -/
def idUpto (nb : Nat) (ρ : List Nat) : Bool := (List.range nb).all fun l => match ρ[l]? with | some m => Nat.beq m l | none => false
theorem idUpto_spec {nb : Nat} {ρ : List Nat} (h : idUpto nb ρ = true) {l : Nat} (hl : l < nb) : ρ[l]? = some l := by
  have := List.all_eq_true.1 h l (List.mem_range.2 hl)
  split at this
  · rename_i m hm; rw [hm, Nat.eq_of_beq_eq_true this]
  · cases this
/-- The slice nil, taken as one of no elements. -/
inductive Gh (l sz : Nat) : AV → AV → Prop
  | nil : Gh l sz (.v (.slice none 0 0)) (.s l sz 0 0)
  | t {us : List AV} {k : Nat} {u u' : AV} (hk : us[k]? = some u) (h : Gh l sz u u') : Gh l sz (.t us) (.t (us.set k u'))
theorem Gh.ok {l sz : Nat} {R : Nat → Prop} {φ : Phi} {W : World} (hφ : φ l = some none) {u u' : AV} (h : Gh l sz u u') : ∀ {x : Value}, VR R φ W u x → VR R φ W u' x := by
  induction h with
  | nil => intro x hx; rw [hx.val]; exact .nil hφ
  | t hk h ih =>
    intro x hx
    obtain ⟨vs, rfl, hl, hr⟩ := hx.tup
    refine .t (by rw [List.length_set]; exact hl) fun j u0 y hu hy => ?_
    rw [List.getElem?_set] at hu
    split at hu
    · rename_i e
      subst e
      split at hu
      · obtain rfl := Option.some.inj hu
        exact ih (hr _ _ _ hk hy)
      · cases hu
    · exact hr j u0 y hu hy
/-- No root is taken twice, but where it is gone. -/
def goneB : Option Blk → Bool
  | some .gone => true
  | _ => false
def uniqB (ρ : List Nat) (σ0 : St) : Bool := (List.range ρ.length).all fun l => (List.range ρ.length).all fun l' => match Nat.beq l l' with
  | true => true
  | false => match ρ[l]?, ρ[l']? with
    | some m, some m' => match Nat.beq m m' with
      | true => match goneB σ0[l]? with
        | true => true
        | false => goneB σ0[l']?
      | false => true
    | _, _ => true
def Uniq (ρ : List Nat) (σ0 : St) : Prop := ∀ (l l' m : Nat), ρ[l]? = some m → ρ[l']? = some m → l ≠ l' → σ0[l]? = some .gone ∨ σ0[l']? = some .gone
theorem goneB_eq {B : Option Blk} (h : goneB B = true) : B = some .gone := by
  unfold goneB at h
  split at h
  · rfl
  · cases h
theorem uniqB_spec {ρ : List Nat} {σ0 : St} (h : uniqB ρ σ0 = true) : Uniq ρ σ0 := fun l l' m e e' hne => by
  have h1 := List.all_eq_true.1 (List.all_eq_true.1 h l (List.mem_range.2 (lt_of_get? e))) l' (List.mem_range.2 (lt_of_get? e'))
  have hb : Nat.beq l l' = false := by
    cases hb : Nat.beq l l' with
    | false => rfl
    | true => exact absurd (Nat.eq_of_beq_eq_true hb) hne
  simp only [hb, e, e', Nat.beq_refl] at h1
  split at h1
  · rename_i hg; exact .inl (goneB_eq hg)
  · exact .inr (goneB_eq h1)
theorem uniq_nodup {ρ : List Nat} {σ0 : St} (hnd : ρ.Nodup) : Uniq ρ σ0 := fun l l' m e1 e1' hne => by
  have l1 := lt_of_get? e1
  have l2 := lt_of_get? e1'
  rw [List.getElem?_eq_getElem l1] at e1
  rw [List.getElem?_eq_getElem l2] at e1'
  exact absurd ((List.getElem_inj hnd).1 ((Option.some.inj e1).trans (Option.some.inj e1').symm)) hne
/-- The state (f0, σ0) says no more than (f, σ); the first nb roots keep their names. -/
inductive Cov (nb : Nat) (f0 : List AV) (σ0 : St) : List AV → St → Prop
  | refl : Cov nb f0 σ0 f0 σ0
  | mk {f : List AV} {σ : St} (ρ : List Nat) (hn : ρ.Nodup) (h1 : FitL ρ σ f0 f) (h2 : FitS ρ σ ρ σ0) (hid : idUpto nb ρ = true) : Cov nb f0 σ0 f σ
  | mkd {f : List AV} {σ : St} (ρ : List Nat) (hn : uniqB ρ σ0 = true) (h1 : FitL ρ σ f0 f) (h2 : FitS ρ σ ρ σ0) (hid : idUpto nb ρ = true) : Cov nb f0 σ0 f σ
  | slot {f : List AV} {σ : St} (i sz : Nat) (u u' : AV) (hf : f[i]? = some u) (hz : 0 < sz) (hu : Gh σ.length sz u u') (h : Cov nb f0 σ0 (f.set i u') (σ ++ [.tab sz 0 fun _ => []])) : Cov nb f0 σ0 f σ
  | cell {f : List AV} {σ : St} (m j sz : Nat) (cs : List AV) (u u' : AV) (hm : σ[m]? = some (.lit cs)) (hj : cs[j]? = some u) (hz : 0 < sz) (hu : Gh σ.length sz u u') (h : Cov nb f0 σ0 f (σ.set m (.lit (cs.set j u')) ++ [.tab sz 0 fun _ => []])) : Cov nb f0 σ0 f σ

theorem Rel.ghost {F0 : Nat → Nat → Prop} {W0 : World} {R : Nat → Prop} {φ : Phi} {σ : St} {f : List AV} {tmps : Array Value} {W : World} (h : Rel F0 W0 R φ σ f tmps W) {sz : Nat} (hz : 0 < sz) (g : Nat → List AV) :
    Rel F0 W0 R (upd φ σ.length none) (σ ++ [.tab sz 0 g]) f tmps W := by
  have hnone : φ σ.length = none := h.sim.dom _ (Nat.le_refl _)
  refine Rel.turn h (l := σ.length) (src := σ.length) (B' := .tab sz 0 g) (G := fun _ _ => False) (Keep.refl _ _) (upd_ext _ hnone) (fun m hm h => upd_none hm h) (fun b k hg => hg.elim) ⟨hz, by simp, fun k hk => by omega, .inl ⟨upd_same _ _ _, rfl⟩⟩ (fun b k hw => ?_) (fun m B0 e => ?_) fun m hm => ?_
  · obtain ⟨o, e⟩ := hw
    rw [upd_same] at e
    cases e
  · rcases append_get e with ⟨rfl, rfl⟩ | ⟨hne, e⟩
    · exact .inl ⟨rfl, rfl⟩
    · exact .inr (.inr ⟨hne, hne, e⟩)
  · simp only [List.length_append, List.length_cons, List.length_nil] at hm
    unfold upd
    rw [if_neg (by omega)]
    exact h.sim.dom m (by omega)
theorem Rel.slot {F0 : Nat → Nat → Prop} {W0 : World} {R : Nat → Prop} {φ : Phi} {σ : St} {f : List AV} {tmps : Array Value} {W : World} (h : Rel F0 W0 R φ σ f tmps W) {i : Nat} {u u' : AV} (hf : f[i]? = some u) (hu : ∀ {x : Value}, VR R φ W u x → VR R φ W u' x) :
    Rel F0 W0 R φ σ (f.set i u') tmps W := by
  refine ⟨h.sim, fun t v hv => ?_, h.reg, h.keep, by rw [List.length_set]; exact h.len⟩
  rw [List.getElem?_set] at hv
  split at hv
  · rename_i e
    subst e
    split at hv
    · obtain rfl := Option.some.inj hv
      exact hu (h.fr _ _ hf)
    · cases hv
  · exact h.fr t v hv
theorem Rel.cell {F0 : Nat → Nat → Prop} {W0 : World} {R : Nat → Prop} {φ : Phi} {σ : St} {f : List AV} {tmps : Array Value} {W : World} (h : Rel F0 W0 R φ σ f tmps W) {m j : Nat} {cs : List AV} {u u' : AV} (hm : σ[m]? = some (.lit cs)) (hj : cs[j]? = some u) (hu : ∀ {x : Value}, VR R φ W u x → VR R φ W u' x) :
    Rel F0 W0 R φ (σ.set m (.lit (cs.set j u'))) f tmps W := by
  have get : ∀ {l : Nat} {B' : Blk}, (σ.set m (.lit (cs.set j u')))[l]? = some B' → ∃ B, σ[l]? = some B ∧ (∀ b k, own φ l B' b k → own φ l B b k) ∧ (BlkOk R φ W l B → BlkOk R φ W l B') := fun {l B'} e => by
    rw [List.getElem?_set] at e
    split at e
    · rename_i hl
      subst hl
      split at e
      · obtain rfl := Option.some.inj e
        refine ⟨_, hm, fun b k ho => ?_, fun hb => ?_⟩
        · obtain ⟨o, e1, e2, e3⟩ := ho
          exact ⟨o, e1, e2, by rwa [List.length_set] at e3⟩
        · obtain ⟨b, o, e1, fr, hg⟩ := hb
          refine ⟨b, o, e1, fr, fun k v hv => ?_⟩
          rw [List.getElem?_set] at hv
          split at hv
          · rename_i hk
            subst hk
            split at hv
            · obtain rfl := Option.some.inj hv
              obtain ⟨x, hx, hr⟩ := hg _ _ hj
              exact ⟨x, hx, hu hr⟩
            · cases hv
          · exact hg k v hv
      · cases e
    · exact ⟨B', e, fun _ _ h => h, fun h => h⟩
  refine ⟨⟨fun l B' e => ?_, fun l l' B0 B0' hne e e' b k k' w w' => ?_, fun l B0 e b k w => ?_, h.sim.old, fun l hl => h.sim.dom l (by rwa [List.length_set] at hl)⟩, h.fr, fun l B0 e b k w => ?_, h.keep, h.len⟩
  · obtain ⟨B, e1, _, e3⟩ := get e
    exact e3 (h.sim.blk l B e1)
  · obtain ⟨B, e1, e2, _⟩ := get e
    obtain ⟨B1, e1', e2', _⟩ := get e'
    exact h.sim.sep l l' B B1 hne e1 e1' b k k' (e2 b k w) (e2' b k' w')
  · obtain ⟨B, e1, e2, _⟩ := get e
    exact h.sim.ro l B e1 b k (e2 b k w)
  · obtain ⟨B, e1, e2, _⟩ := get e
    exact h.reg l B e1 b k (e2 b k w)

theorem FitB.own {ρ : List Nat} {σ : St} {φ φ0 : Phi} {l m : Nat} (hφ : φ0 l = φ m) {B0 B : Blk} (h : FitB ρ σ B0 B) {b k : Nat} (ho : own φ0 l B0 b k) : own φ m B b k := by
  cases h with
  | gone => exact ho.elim
  | lit h => obtain ⟨o, e, h1, h2⟩ := ho; exact ⟨o, by rw [← hφ]; exact e, h1, by rw [← h.len]; exact h2⟩
  | tab h => obtain ⟨o, e⟩ := ho; exact ⟨o, by rw [← hφ]; exact e⟩
  | lrec e => have ho : φ0 l = some (some (b, 0)) := ho; exact (by rw [← hφ]; exact ho : φ m = some (some (b, 0)))
  | held => have ho : φ0 l = some (some (b, 0)) := ho; exact (by rw [← hφ]; exact ho : φ m = some (some (b, 0)))

theorem FitB.ok {ρ : List Nat} {σ : St} {R : Nat → Prop} {φ : Phi} {W : World} (hs : Sim R φ σ W) {l m : Nat} (hl : ρ[l]? = some m) {B0 B : Blk} (hB : σ[m]? = some B) (h : FitB ρ σ B0 B) : BlkOk (more ρ σ φ R) (ren ρ φ) W l B0 := by
  have hren : ren ρ φ l = φ m := by simp only [ren, hl]
  have hb := hs.blk m B hB
  cases h with
  | gone => trivial
  | lit h =>
    obtain ⟨b, o, e, fr, g⟩ := hb
    refine ⟨b, o, by rw [hren]; exact e, fr, fun k u0 hu0 => ?_⟩
    obtain ⟨u, hu⟩ := get?_of_lt (by rw [← h.len]; exact lt_of_get? hu0)
    obtain ⟨x, hx, hv⟩ := g k u hu
    exact ⟨x, hx, (h.get k u0 u hu0 hu).ok hs hv⟩
  | tab h =>
    obtain ⟨hz, hm, hlen, hblk⟩ := hb
    refine ⟨hz, hm, fun k hk => by rw [h k hk]; exact hlen k hk, ?_⟩
    rcases hblk with ⟨e, h0⟩ | ⟨b, o, e, fr, g⟩
    · exact .inl ⟨by rw [hren]; exact e, h0⟩
    · refine .inr ⟨b, o, by rw [hren]; exact e, fr, fun k j u hk hu => ?_⟩
      obtain ⟨x, hx, hv⟩ := g k j u hk (by rw [← h k hk]; exact hu)
      exact ⟨x, hx, hv.mono (fun b h => .inl h) fun _ _ _ _ h => h⟩
  | lrec e =>
    obtain ⟨b, r, e1, g⟩ := hb
    exact ⟨b, r, by rw [hren]; exact e1, g⟩
  | held =>
    obtain ⟨b, r, e1, g⟩ := hb
    exact ⟨b, r, by rw [hren]; exact e1, g⟩

theorem cov_rel {ρ : List Nat} {f0 : List AV} {σ0 : St} {f : List AV} {σ : St} (hnd : Uniq ρ σ0) (hf : FitL ρ σ f0 f) (hs : FitS ρ σ ρ σ0) {F0 : Nat → Nat → Prop} {W0 : World} {R : Nat → Prop} {φ : Phi} {tmps : Array Value} {W : World} (hrel : Rel F0 W0 R φ σ f tmps W) :
    (∀ b, R b → more ρ σ φ R b) ∧ (∀ b, more ρ σ φ R b → R b ∨ W0.heap.size ≤ b ∨ ∃ k, F0 b k) ∧ Rel F0 W0 (more ρ σ φ R) (ren ρ φ) σ0 f0 tmps W := by
  have hsim := hrel.sim
  have hget : ∀ {l : Nat} {B0 : Blk}, σ0[l]? = some B0 → ∃ m B, ρ[l]? = some m ∧ σ[m]? = some B ∧ FitB ρ σ B0 B := fun h => hs.get _ _ h
  have hown : ∀ {l : Nat} {B0 : Blk} {b k : Nat}, σ0[l]? = some B0 → own (ren ρ φ) l B0 b k → ∃ m B, ρ[l]? = some m ∧ σ[m]? = some B ∧ own φ m B b k := fun h ho => by
    obtain ⟨m, B, e1, e2, e3⟩ := hget h
    exact ⟨m, B, e1, e2, e3.own (by simp only [ren, e1]) ho⟩
  refine ⟨fun b h => .inl h, fun b h => ?_, ⟨⟨fun l B0 e => ?_, fun l l' B0 B0' hne e e' b k k' w w' => ?_, fun l B0 e b k w hR => ?_, hsim.old.to (fun _ h => .inl h) (fun _ _ _ _ h => h) fun b hR => ?_, fun l hl => ?_⟩, fun t u0 hu0 => ?_, fun l B0 e b k w => ?_, hrel.keep, hf.len.trans hrel.len⟩⟩
  · rcases h with h | ⟨m, B, k, _, e, w⟩
    · exact .inl h
    · rcases hrel.reg m B e b k w with h | h
      · exact .inr (.inr ⟨k, h⟩)
      · exact .inr (.inl h)
  · obtain ⟨m, B, e1, e2, e3⟩ := hget e
    exact e3.ok hsim e1 e2
  · obtain ⟨m, B, e1, e2, w1⟩ := hown e w
    obtain ⟨m', B', e1', e2', w1'⟩ := hown e' w'
    by_cases he : m = m'
    · subst he
      rcases hnd l l' m e1 e1' hne with g | g
      · rw [e] at g
        obtain rfl := Option.some.inj g
        exact w.elim
      · rw [e'] at g
        obtain rfl := Option.some.inj g
        exact w'.elim
    · exact hsim.sep m m' B B' he e2 e2' b k k' w1 w1'
  · obtain ⟨m, B, e1, e2, w1⟩ := hown e w
    rcases hR with hR | ⟨m', B', k', hm', e', w'⟩
    · exact hsim.ro m B e2 b k w1 hR
    · exact hsim.sep m m' B B' (fun he => hm' (he ▸ List.mem_of_getElem? e1)) e2 e' b k k' w1 w'
  · rcases hR with hR | ⟨m', B', k', hm', e', w'⟩
    · exact hsim.old b hR
    · exact (hsim.blk m' B' e').owned w'
  · have : ρ[l]? = none := List.getElem?_eq_none (by rw [hs.len]; exact hl)
    simp only [ren, this]
  · obtain ⟨u, hu⟩ := get?_of_lt (by rw [← hf.len]; exact lt_of_get? hu0)
    exact (hf.get t u0 u hu0 hu).ok hsim (hrel.fr t u hu)
  · obtain ⟨m, B, e1, e2, w1⟩ := hown e w
    exact hrel.reg m B e2 b k w1

theorem Cov.holds {nb : Nat} {f0 : List AV} {σ0 : St} {f : List AV} {σ : St} (h : Cov nb f0 σ0 f σ) {E : Ent} (hE : E.σ.length ≤ nb) (hd : ∀ l, E.σ.length ≤ l → E.φ l = none) {a : Act} {w : World} (hh : Holds E f σ a w) : Holds E f0 σ0 a w := by
  induction h with
  | refl => exact hh
  | slot i sz u u' hf hz hu _ ih =>
    refine ih ?_
    obtain ⟨R, φ, hT, hl, hfr, hm⟩ := hh
    have hg := (localRel hT.sim hl hfr).ghost hz fun _ => []
    have hg' := hg.slot hf fun {x} hx => hu.ok (upd_same _ _ _) hx
    exact ⟨R, _, hT.trans (turn_of_rel (fun _ h => h) (fun _ h => .inl h) (upd_ext _ (hT.sim.dom _ (Nat.le_refl _))) hg'), hg'.len, hg'.fr, hm⟩
  | cell m j sz cs u u' hm1 hj hz hu _ ih =>
    refine ih ?_
    obtain ⟨R, φ, hT, hl, hfr, hm⟩ := hh
    have hlt := lt_of_get? hm1
    have hg := (localRel hT.sim hl hfr).ghost hz fun _ => []
    have hg' := hg.cell (m := m) (j := j) (cs := cs) (u' := u') (by rw [List.getElem?_append_left hlt]; exact hm1) hj fun {x} hx => hu.ok (upd_same _ _ _) hx
    rw [List.set_append_left _ _ hlt] at hg'
    exact ⟨R, _, hT.trans (turn_of_rel (fun _ h => h) (fun _ h => .inl h) (upd_ext _ (hT.sim.dom _ (Nat.le_refl _))) hg'), hg'.len, hg'.fr, hm⟩
  | mk ρ hnd h1 h2 hid =>
    obtain ⟨R, φ, hT, hl, hf, hm⟩ := hh
    obtain ⟨g1, g2, grel⟩ := cov_rel (uniq_nodup hnd) h1 h2 (localRel hT.sim hl hf)
    refine ⟨more ρ _ φ R, ren ρ φ, ⟨fun b hb => g1 b (hT.hR b hb), fun b hb => ?_, fun l p hp => ?_, grel.sim, fun b k ⟨l, B, e, hw⟩ => ?_, hT.keep⟩, grel.len, grel.fr, hm⟩
    · rcases g2 b hb with h | h | ⟨k, h⟩
      · exact hT.hR' b h
      · exact .inr (.inl (Nat.le_trans hT.keep.size h))
      · rcases hT.reg b k h with h | h
        · exact .inr (.inr ⟨k, h⟩)
        · exact .inr (.inl h)
    · have hlt : l < E.σ.length := by
        rcases Nat.lt_or_ge l E.σ.length with h | h
        · exact h
        · rw [hd l h] at hp; cases hp
      simp only [ren, idUpto_spec hid (Nat.lt_of_lt_of_le hlt hE)]
      exact hT.ext l p hp
    · rcases grel.reg l B e b k hw with h | h
      · exact hT.reg b k h
      · exact .inr (Nat.le_trans hT.keep.size h)
  | mkd ρ hnd h1 h2 hid =>
    obtain ⟨R, φ, hT, hl, hf, hm⟩ := hh
    obtain ⟨g1, g2, grel⟩ := cov_rel (uniqB_spec hnd) h1 h2 (localRel hT.sim hl hf)
    refine ⟨more ρ _ φ R, ren ρ φ, ⟨fun b hb => g1 b (hT.hR b hb), fun b hb => ?_, fun l p hp => ?_, grel.sim, fun b k ⟨l, B, e, hw⟩ => ?_, hT.keep⟩, grel.len, grel.fr, hm⟩
    · rcases g2 b hb with h | h | ⟨k, h⟩
      · exact hT.hR' b h
      · exact .inr (.inl (Nat.le_trans hT.keep.size h))
      · rcases hT.reg b k h with h | h
        · exact .inr (.inr ⟨k, h⟩)
        · exact .inr (.inl h)
    · have hlt : l < E.σ.length := by
        rcases Nat.lt_or_ge l E.σ.length with h | h
        · exact h
        · rw [hd l h] at hp; cases hp
      simp only [ren, idUpto_spec hid (Nat.lt_of_lt_of_le hlt hE)]
      exact hT.ext l p hp
    · rcases grel.reg l B e b k hw with h | h
      · exact hT.reg b k h
      · exact .inr (Nat.le_trans hT.keep.size h)
end Go.Proofs.YtaneamfnjhiigaaDoor.E
