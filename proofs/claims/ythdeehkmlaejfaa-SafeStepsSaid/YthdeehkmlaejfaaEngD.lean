/- The engine, and texts over it, joined: ECov ECode EFunc EFn ELoop ELocal. -/
import Derived.Test.YthdeehkmlaejfaaEngC
/- The engine, part 19: a state that says no more than another one: roots are named anew, forgotten, or frozen. -/
namespace Go.Proofs.Ythdeehkmlaejfaa.E
open Go
set_option linter.unusedSimpArgs false
set_option linter.unusedVariables false

/-- Where the roots that are named anew lie. -/
def ren (ρ : List Nat) (φ : Phi) : Phi := fun l => match ρ[l]? with | some m => φ m | none => none

/-- What is no more than what was: ρ are the roots that are kept; one that isn't kept is not written any more. -/
inductive Fit (ρ : List Nat) (σ : St) : AV → AV → Prop
  | dead (u : AV) : Fit ρ σ .dead u
  | v (x : Value) : Fit ρ σ (.v x) (.v x)
  | p {l m off : Nat} (h : ρ[l]? = some m) : Fit ρ σ (.p l off) (.p m off)
  | q {l m sz i j : Nat} (h : ρ[l]? = some m) : Fit ρ σ (.q l sz i j) (.q m sz i j)
  | s {l m sz o n : Nat} (h : ρ[l]? = some m) : Fit ρ σ (.s l sz o n) (.s m sz o n)
  | y {l m : Nat} (h : ρ[l]? = some m) : Fit ρ σ (.y l) (.y m)
  | mp {l m : Nat} (h : ρ[l]? = some m) : Fit ρ σ (.mp l) (.mp m)
  | i {sz n : Nat} {g0 g : Nat → List AV} (hg : ∀ k, k < n → g0 k = g k) : Fit ρ σ (.i sz n g0) (.i sz n g)
  | ip {cs : List AV} {j : Nat} : Fit ρ σ (.ip cs j) (.ip cs j)
  | z : Fit ρ σ .z .z
  | ii {sz n : Nat} {g0 g : Nat → List AV} (hl : ∀ k, k < n → (g0 k).length = (g k).length) (hx : ∀ k, k < n → ∀ (j : Nat) (u0 u : AV), (g0 k)[j]? = some u0 → (g k)[j]? = some u → Fit ρ σ u0 u) (hp : ∀ k, k < n → ∀ u ∈ g0 k, pureCell u = true) : Fit ρ σ (.i sz n g0) (.i sz n g)
  | ni {sz : Nat} {g : Nat → List AV} : Fit ρ σ (.i sz 0 g) (.v (.slice none 0 0))
  | zi {sz : Nat} {g : Nat → List AV} : Fit ρ σ (.i sz 0 g) .z
  | fz {m sz o n n' : Nat} {g0 g : Nat → List AV} (h : σ[m]? = some (.tab sz n' g)) (hm : m ∉ ρ) (hn : o + n ≤ n') (hg : ∀ k, k < n → g0 k = g (o + k)) : Fit ρ σ (.i sz n g0) (.s m sz o n)
  | fzl {m sz o n : Nat} {g0 : Nat → List AV} {cs : List AV} (h : σ[m]? = some (.lit cs)) (hm : m ∉ ρ) (hp : cs.all pureCell = true) (hs : 0 < sz) (hn : (o + n) * sz ≤ cs.length) (hb : n * sz < 281474976710656) (hg : ∀ k, k < n → g0 k = (cs.drop ((o + k) * sz)).take sz) : Fit ρ σ (.i sz n g0) (.s m sz o n)
  | fzd {m sz o n : Nat} {g0 : Nat → List AV} {cs cs0 : List AV} (h : σ[m]? = some (.lit cs)) (hm : m ∉ ρ) (hl : cs0.length = cs.length) (hx : ∀ (k : Nat) (u0 u : AV), cs0[k]? = some u0 → cs[k]? = some u → Fit ρ σ u0 u) (hp : cs0.all pureCell = true) (hs : 0 < sz) (hn : (o + n) * sz ≤ cs0.length) (hb : n * sz < 281474976710656) (hg : ∀ k, k < n → g0 k = (cs0.drop ((o + k) * sz)).take sz) : Fit ρ σ (.i sz n g0) (.s m sz o n)
  | fzpd {m off : Nat} {cs cs0 : List AV} (h : σ[m]? = some (.lit cs)) (hm : m ∉ ρ) (hl : cs0.length = cs.length) (hx : ∀ (k : Nat) (u0 u : AV), cs0[k]? = some u0 → cs[k]? = some u → Fit ρ σ u0 u) (hp : cs0.all pureCell = true) (hne : cs0 ≠ []) : Fit ρ σ (.ip cs0 off) (.p m off)
  | fzv {m sz o n n' : Nat} {g0 g : Nat → List AV} {rs : List Nat} (h : σ[m]? = some (.tabv sz n' g rs)) (hm : m ∉ ρ) (hn : o + n ≤ n') (hl : ∀ k, k < n → (g0 k).length = (g (o + k)).length) (hx : ∀ k, k < n → ∀ (j : Nat) (u0 u : AV), (g0 k)[j]? = some u0 → (g (o + k))[j]? = some u → Fit ρ σ u0 u) (hp : ∀ k, k < n → ∀ u ∈ g0 k, pureCell u = true) : Fit ρ σ (.i sz n g0) (.s m sz o n)
  | fzp {m off : Nat} {cs : List AV} (h : σ[m]? = some (.lit cs)) (hm : m ∉ ρ) (hp : cs.all pureCell = true) (hne : cs ≠ []) : Fit ρ σ (.ip cs off) (.p m off)
  | a {us0 us : List AV} (hl : us0.length = us.length) (hx : ∀ (k : Nat) (u0 u : AV), us0[k]? = some u0 → us[k]? = some u → Fit ρ σ u0 u) : Fit ρ σ (.a us0) (.a us)
  | t {us0 us : List AV} (hl : us0.length = us.length) (hx : ∀ (k : Nat) (u0 u : AV), us0[k]? = some u0 → us[k]? = some u → Fit ρ σ u0 u) : Fit ρ σ (.t us0) (.t us)
  | f {fn : Fn} {us0 us cs0 cs : List AV} (hl' : us0.length = us.length) (hx' : ∀ (k : Nat) (u0 u : AV), us0[k]? = some u0 → us[k]? = some u → Fit ρ σ u0 u)
      (hl : cs0.length = cs.length) (hx : ∀ (k : Nat) (u0 u : AV), cs0[k]? = some u0 → cs[k]? = some u → Fit ρ σ u0 u) : Fit ρ σ (.f fn us0 cs0) (.f fn us cs)

/-- The blocks that are not written any more. -/
def more (ρ : List Nat) (σ : St) (φ : Phi) (R : Nat → Prop) (b : Nat) : Prop := R b ∨ ∃ m B k, m ∉ ρ ∧ σ[m]? = some B ∧ own φ m B b k

theorem get?_of_lt {α : Type} {l : List α} {k : Nat} (h : k < l.length) : ∃ u, l[k]? = some u := ⟨_, List.getElem?_eq_getElem h⟩
theorem lt_of_get? {α : Type} {l : List α} {k : Nat} {u : α} (h : l[k]? = some u) : k < l.length := by
  rcases Nat.lt_or_ge k l.length with h1 | h1
  · exact h1
  · rw [List.getElem?_eq_none h1] at h; cases h

theorem lits {R : Nat → Prop} {φ : Phi} {W : World} {m : Nat} {cs : List AV} (h : BlkOk R φ W m (.lit cs)) (hp : cs.all pureCell = true) : ∃ b o, φ m = some (some (b, o)) ∧ Free W b ∧ ∃ x : Nat → Value, ∀ k u, cs[k]? = some u → W.cell? ⟨b, o + k, none⟩ = some (x k) ∧ CR R W u (x k) := by
  obtain ⟨b, o, e, fr, g⟩ := h
  refine ⟨b, o, e, fr, fun k => (W.cell? ⟨b, o + k, none⟩).getD undef, fun k u hu => ?_⟩
  obtain ⟨x, hx, hv⟩ := g k u hu
  refine ⟨by simp [hx], ?_⟩
  have : (W.cell? ⟨b, o + k, none⟩).getD undef = x := by rw [hx]; rfl
  show CR R W u ((W.cell? ⟨b, o + k, none⟩).getD undef)
  rw [this]
  exact pureCell_ok hv (List.all_eq_true.1 hp u (List.mem_of_getElem? hu))

theorem Fit.ok {ρ : List Nat} {σ : St} {R : Nat → Prop} {φ : Phi} {W : World} (hs : Sim R φ σ W) {u0 u : AV} (h : Fit ρ σ u0 u) : ∀ {x : Value}, VR R φ W u x → VR (more ρ σ φ R) (ren ρ φ) W u0 x := by
  have hR : ∀ b, R b → more ρ σ φ R b := fun b h => .inl h
  have calm : Calm R W W := fun _ _ _ _ h => h
  have hren : ∀ {l m : Nat}, ρ[l]? = some m → ren ρ φ l = φ m := fun h => by simp only [ren, h]
  induction h with
  | dead u => intro x _; exact .dead x
  | v y => intro x hx; rw [hx.val]; exact .imm (.v _)
  | p h =>
    intro x hx
    cases hx with
    | imm hi => cases hi
    | p h' => exact .p (by rw [hren h]; exact h')
  | q h =>
    intro x hx
    cases hx with
    | imm hi => cases hi
    | q h' => exact .q (by rw [hren h]; exact h')
  | y h =>
    intro x hx
    cases hx with
    | imm hi => cases hi
    | y h' => exact .y (by rw [hren h]; exact h')
  | mp h =>
    intro x hx
    cases hx with
    | imm hi => cases hi
    | mp h' => exact .mp (by rw [hren h]; exact h')
  | s h =>
    intro x hx
    cases hx with
    | imm hi => cases hi
    | nil h' => exact .nil (by rw [hren h]; exact h')
    | z h' => exact .z (by rw [hren h]; exact h')
    | s h' hn hr => exact .s (by rw [hren h]; exact h') hn hr
  | i hg =>
    intro x hx
    cases hx with
    | imm hi =>
      cases hi with
      | nil => exact .imm (.nil _ _ _ _)
      | i y hb hn hl hc hx hsc hs hm =>
        exact .imm (.i y (hR _ hb) hn (fun k hk => by rw [hg k hk]; exact hl k hk) (fun k j u hk hu => hc k j u hk (by rw [← hg k hk]; exact hu))
          (fun k j u hk hu => (hx k j u hk (by rw [← hg k hk]; exact hu)).mono hR calm) (fun k j u hk hu => hsc k j u hk (by rw [← hg k hk]; exact hu)) hs hm)
  | ip =>
    intro x hx
    cases hx with
    | imm hi => exact .imm (hi.mono hR calm)
  | z =>
    intro x hx
    cases hx with
    | imm hi => exact .imm (hi.mono hR calm)
  | @ii sz n g0 g hl hxx hp ih =>
    intro x hx
    cases hx with
    | imm hi =>
      cases hi with
      | nil => exact .imm (.nil _ _ _ _)
      | i y hb hn hlen hc hy hsc hs0 hm =>
        have cell : ∀ k j u0, k < n → (g0 k)[j]? = some u0 → ∃ u, (g k)[j]? = some u := fun k j u0 hk hu => get?_of_lt (by rw [← hl k hk]; exact lt_of_get? hu)
        refine .imm (.i y (hR _ hb) hn (fun k hk => by rw [hl k hk]; exact hlen k hk) (fun k j u hk hu => ?_) (fun k j u hk hu => ?_) (fun k j u hk hu => ?_) hs0 hm)
        · obtain ⟨u1, hu1⟩ := cell k j u hk hu
          exact hc k j u1 hk hu1
        · obtain ⟨u1, hu1⟩ := cell k j u hk hu
          exact (pureCell_ok (ih k hk j u u1 hu hu1 (.imm (hy k j u1 hk hu1))) (hp k hk u (List.mem_of_getElem? hu))).1
        · obtain ⟨u1, hu1⟩ := cell k j u hk hu
          exact hsc k j u1 hk hu1
  | ni =>
    intro x hx
    rw [hx.val]
    exact .imm (.nil _ _ _ _)
  | zi =>
    intro x hx
    cases hx with
    | imm hi => cases hi with
      | z a => exact .imm (.nil _ _ _ _)
  | @fz m sz o n n' g0 g h hm hn hg =>
    intro x hx
    obtain ⟨hz, hm', hlen, hblk⟩ := hs.blk m _ h
    have hnil : n = 0 → ∀ a cap, VR (more ρ σ φ R) (ren ρ φ) W (.i sz n g0) (.slice a 0 cap) := fun h0 a cap => by subst h0; exact .imm (.nil _ _ _ _)
    cases hx with
    | imm hi => cases hi
    | nil h' => exact hnil rfl _ _
    | z h' => exact hnil rfl _ _
    | s h' hn' hr =>
      rcases hblk with ⟨e, _⟩ | ⟨b, f, e, fr, g'⟩
      · rw [e] at h'; cases h'
      · rw [e] at h'
        obtain ⟨rfl, rfl⟩ := Prod.mk.inj (Option.some.inj (Option.some.inj h'))
        have cells : ∀ k j u, k < n → (g (o + k))[j]? = some u → W.cell? ⟨b, f + o * sz + (k * sz + j), none⟩ = some ((W.cell? ⟨b, f + o * sz + (k * sz + j), none⟩).getD undef) ∧ CR R W u ((W.cell? ⟨b, f + o * sz + (k * sz + j), none⟩).getD undef) := fun k j u hk hu => by
          obtain ⟨y, e1, e2⟩ := g' (o + k) j u (by omega) hu
          have : f + ((o + k) * sz + j) = f + o * sz + (k * sz + j) := by rw [Nat.add_mul]; omega
          rw [this] at e1
          rw [e1]
          exact ⟨rfl, e2⟩
        refine .imm (.i (fun k j => (W.cell? ⟨b, f + o * sz + (k * sz + j), none⟩).getD undef) (.inr ⟨m, _, 0, hm, h, _, e⟩) hn' (fun k hk => by rw [hg k hk]; exact hlen _ (by omega))
          (fun k j u hk hu => (cells k j u hk (by rw [← hg k hk]; exact hu)).1) (fun k j u hk hu => ((cells k j u hk (by rw [← hg k hk]; exact hu)).2.1).mono hR calm)
          (fun k j u hk hu => (cells k j u hk (by rw [← hg k hk]; exact hu)).2.2) hz ?_)
        exact Nat.lt_of_le_of_lt (Nat.mul_le_mul_right sz (by omega : n ≤ n')) hm'
  | @fzl m sz o n g0 cs h hm hp hz hn hb hg =>
    intro x hx
    obtain ⟨b, f, e, fr, y, hy⟩ := lits (hs.blk m _ h) hp
    cases hx with
    | imm hi => cases hi
    | nil h' => exact .imm (.nil _ _ _ _)
    | z h' => exact .imm (.nil _ _ _ _)
    | s h' hn' hr =>
      rw [e] at h'
      obtain ⟨rfl, rfl⟩ := Prod.mk.inj (Option.some.inj (Option.some.inj h'))
      have hin : ∀ k, k < n → (o + k) * sz + sz ≤ cs.length := fun k hk => by
        have : (o + k + 1) * sz ≤ (o + n) * sz := Nat.mul_le_mul_right sz (by omega)
        rw [Nat.add_mul (o + k)] at this
        omega
      have cells : ∀ k j u, k < n → (g0 k)[j]? = some u → W.cell? ⟨b, f + o * sz + (k * sz + j), none⟩ = some (y ((o + k) * sz + j)) ∧ CR R W u (y ((o + k) * sz + j)) := fun k j u hk hu => by
        rw [hg k hk] at hu
        have hj : j < sz := by have := lt_of_get? hu; rw [List.length_take] at this; omega
        rw [List.getElem?_take_of_lt hj, List.getElem?_drop] at hu
        have := hy _ u hu
        have e2 : f + ((o + k) * sz + j) = f + o * sz + (k * sz + j) := by rw [Nat.add_mul]; omega
        rw [e2] at this
        exact this
      by_cases h0 : n = 0
      · subst h0; exact .imm (.nil _ _ _ _)
      · have hpos : 0 < cs.length := by have := hin 0 (by omega); omega
        refine .imm (.i (fun k j => y ((o + k) * sz + j)) (.inr ⟨m, _, f, hm, h, _, e, Nat.le_refl _, by omega⟩) hn' (fun k hk => ?_) (fun k j u hk hu => (cells k j u hk hu).1) (fun k j u hk hu => ((cells k j u hk hu).2.1).mono hR calm) (fun k j u hk hu => (cells k j u hk hu).2.2) hz hb)
        rw [hg k hk, List.length_take, List.length_drop]
        have := hin k hk
        omega
  | @fzd m sz o n g0 cs cs0 h hm hl hxx hp hz hn hb hg ih =>
    intro x hx
    obtain ⟨b, f, e, fr, gg⟩ := hs.blk m _ h
    have hy : ∀ k u, cs0[k]? = some u → W.cell? ⟨b, f + k, none⟩ = some ((W.cell? ⟨b, f + k, none⟩).getD undef) ∧ CR (more ρ σ φ R) W u ((W.cell? ⟨b, f + k, none⟩).getD undef) := fun k u hu => by
      obtain ⟨u1, hu1⟩ := get?_of_lt (l := cs) (k := k) (by rw [← hl]; exact lt_of_get? hu)
      obtain ⟨y, hy1, hy2⟩ := gg k u1 hu1
      rw [hy1]
      exact ⟨rfl, pureCell_ok (ih k u u1 hu hu1 hy2) (List.all_eq_true.1 hp u (List.mem_of_getElem? hu))⟩
    generalize hyy : (fun k => (W.cell? ⟨b, f + k, none⟩).getD undef) = y at hy
    have hy : ∀ k u, cs0[k]? = some u → W.cell? ⟨b, f + k, none⟩ = some (y k) ∧ CR (more ρ σ φ R) W u (y k) := fun k u hu => by rw [← hyy]; exact hy k u hu
    cases hx with
    | imm hi => cases hi
    | nil h' => exact .imm (.nil _ _ _ _)
    | z h' => exact .imm (.nil _ _ _ _)
    | s h' hn' hr =>
      rw [e] at h'
      obtain ⟨rfl, rfl⟩ := Prod.mk.inj (Option.some.inj (Option.some.inj h'))
      have hin : ∀ k, k < n → (o + k) * sz + sz ≤ cs0.length := fun k hk => by
        have : (o + k + 1) * sz ≤ (o + n) * sz := Nat.mul_le_mul_right sz (by omega)
        rw [Nat.add_mul (o + k)] at this
        omega
      have cells : ∀ k j u, k < n → (g0 k)[j]? = some u → W.cell? ⟨b, f + o * sz + (k * sz + j), none⟩ = some (y ((o + k) * sz + j)) ∧ CR (more ρ σ φ R) W u (y ((o + k) * sz + j)) := fun k j u hk hu => by
        rw [hg k hk] at hu
        have hj : j < sz := by have := lt_of_get? hu; rw [List.length_take] at this; omega
        rw [List.getElem?_take_of_lt hj, List.getElem?_drop] at hu
        have := hy _ u hu
        have e2 : f + ((o + k) * sz + j) = f + o * sz + (k * sz + j) := by rw [Nat.add_mul]; omega
        rw [e2] at this
        exact this
      by_cases h0 : n = 0
      · subst h0; exact .imm (.nil _ _ _ _)
      · have hpos : 0 < cs.length := by have := hin 0 (by omega); omega
        refine .imm (.i (fun k j => y ((o + k) * sz + j)) (.inr ⟨m, _, f, hm, h, _, e, Nat.le_refl _, by omega⟩) hn' (fun k hk => ?_) (fun k j u hk hu => (cells k j u hk hu).1) (fun k j u hk hu => (cells k j u hk hu).2.1) (fun k j u hk hu => (cells k j u hk hu).2.2) hz hb)
        rw [hg k hk, List.length_take, List.length_drop]
        have := hin k hk
        omega
  | @fzpd m off cs cs0 h hm hl hxx hp hne ih =>
    intro x hx
    obtain ⟨b, f, e, fr, gg⟩ := hs.blk m _ h
    have hy : ∀ k u, cs0[k]? = some u → W.cell? ⟨b, f + k, none⟩ = some ((W.cell? ⟨b, f + k, none⟩).getD undef) ∧ CR (more ρ σ φ R) W u ((W.cell? ⟨b, f + k, none⟩).getD undef) := fun k u hu => by
      obtain ⟨u1, hu1⟩ := get?_of_lt (l := cs) (k := k) (by rw [← hl]; exact lt_of_get? hu)
      obtain ⟨y, hy1, hy2⟩ := gg k u1 hu1
      rw [hy1]
      exact ⟨rfl, pureCell_ok (ih k u u1 hu hu1 hy2) (List.all_eq_true.1 hp u (List.mem_of_getElem? hu))⟩
    cases hx with
    | imm hi => cases hi
    | p h' =>
      rw [e] at h'
      obtain ⟨rfl, rfl⟩ := Prod.mk.inj (Option.some.inj (Option.some.inj h'))
      have hpos : 0 < cs0.length := List.length_pos_iff.2 hne
      exact .imm (.ip (fun k => (W.cell? ⟨b, f + k, none⟩).getD undef) (.inr ⟨m, _, f, hm, h, _, e, Nat.le_refl _, by omega⟩) (fun k u hu => (hy k u hu).1) fun k u hu => (hy k u hu).2.1)
  | @fzv m sz o n n' g0 g rs h hm hn hl hxx hp ih =>
    intro x hx
    obtain ⟨hz, hm', hlen, hblk⟩ := hs.blk m _ h
    have hnil : n = 0 → ∀ a cap, VR (more ρ σ φ R) (ren ρ φ) W (.i sz n g0) (.slice a 0 cap) := fun h0 a cap => by subst h0; exact .imm (.nil _ _ _ _)
    cases hx with
    | imm hi => cases hi
    | nil h' => exact hnil rfl _ _
    | z h' => exact hnil rfl _ _
    | s h' hn' hr =>
      rcases hblk with ⟨e, _⟩ | ⟨b, f, e, fr, g'⟩
      · rw [e] at h'; cases h'
      · rw [e] at h'
        obtain ⟨rfl, rfl⟩ := Prod.mk.inj (Option.some.inj (Option.some.inj h'))
        have cells : ∀ k j u0, k < n → (g0 k)[j]? = some u0 → W.cell? ⟨b, f + o * sz + (k * sz + j), none⟩ = some ((W.cell? ⟨b, f + o * sz + (k * sz + j), none⟩).getD undef) ∧ CR (more ρ σ φ R) W u0 ((W.cell? ⟨b, f + o * sz + (k * sz + j), none⟩).getD undef) := fun k j u0 hk hu0 => by
          obtain ⟨u, hu⟩ := get?_of_lt (by rw [← hl k hk]; exact lt_of_get? hu0)
          obtain ⟨y, e1, e2, e3⟩ := g' (o + k) j u (by omega) hu
          have : f + ((o + k) * sz + j) = f + o * sz + (k * sz + j) := by rw [Nat.add_mul]; omega
          rw [this] at e1
          rw [e1]
          exact ⟨rfl, pureCell_ok (ih k hk j u0 u hu0 hu e2) (hp k hk u0 (List.mem_of_getElem? hu0))⟩
        refine .imm (.i (fun k j => (W.cell? ⟨b, f + o * sz + (k * sz + j), none⟩).getD undef) (.inr ⟨m, _, 0, hm, h, _, e⟩) hn' (fun k hk => by rw [hl k hk]; exact hlen _ (by omega))
          (fun k j u hk hu => (cells k j u hk hu).1) (fun k j u hk hu => (cells k j u hk hu).2.1) (fun k j u hk hu => (cells k j u hk hu).2.2) hz ?_)
        exact Nat.lt_of_le_of_lt (Nat.mul_le_mul_right sz (by omega : n ≤ n')) hm'
  | @fzp m off cs h hm hp hne =>
    intro x hx
    obtain ⟨b, f, e, fr, y, hy⟩ := lits (hs.blk m _ h) hp
    cases hx with
    | imm hi => cases hi
    | p h' =>
      rw [e] at h'
      obtain ⟨rfl, rfl⟩ := Prod.mk.inj (Option.some.inj (Option.some.inj h'))
      have hpos : 0 < cs.length := List.length_pos_iff.2 hne
      exact .imm (.ip y (.inr ⟨m, _, f, hm, h, _, e, Nat.le_refl _, by omega⟩) (fun k u hu => (hy k u hu).1) fun k u hu => ((hy k u hu).2.1).mono hR calm)
  | a hl hx ih =>
    intro x hx'
    obtain ⟨vs, rfl, hl2, hr⟩ := hx'.agg
    refine .a (hl.trans hl2) fun k u0 y hu0 hy => ?_
    obtain ⟨u, hu⟩ := get?_of_lt (by rw [← hl]; exact lt_of_get? hu0)
    exact ih k u0 u hu0 hu (hr k u y hu hy)
  | t hl hx ih =>
    intro x hx'
    obtain ⟨vs, rfl, hl2, hr⟩ := hx'.tup
    refine .t (hl.trans hl2) fun k u0 y hu0 hy => ?_
    obtain ⟨u, hu⟩ := get?_of_lt (by rw [← hl]; exact lt_of_get? hu0)
    exact ih k u0 u hu0 hu (hr k u y hu hy)
  | f hl' hx' hl hx ih' ih =>
    intro x hv
    cases hv with
    | imm hi => cases hi
    | f el' er' el er =>
      refine .f (hl'.trans el') (fun k u0 y hu0 hy => ?_) (hl.trans el) fun k u0 y hu0 hy => ?_
      · obtain ⟨u, hu⟩ := get?_of_lt (by rw [← hl']; exact lt_of_get? hu0)
        exact ih' k u0 u hu0 hu (er' k u y hu hy)
      · obtain ⟨u, hu⟩ := get?_of_lt (by rw [← hl]; exact lt_of_get? hu0)
        exact ih k u0 u hu0 hu (er k u y hu hy)

/-- A frame's slots, or cells, one by one. -/
def FitL (ρ : List Nat) (σ : St) : List AV → List AV → Prop
  | [], [] => True
  | u0 :: l0, u :: l => Fit ρ σ u0 u ∧ FitL ρ σ l0 l
  | _, _ => False
theorem FitL.len {ρ : List Nat} {σ : St} : ∀ {l0 l : List AV}, FitL ρ σ l0 l → l0.length = l.length
  | [], [], _ => rfl
  | _ :: _, _ :: _, h => by simp [FitL.len h.2]
  | [], _ :: _, h => h.elim
  | _ :: _, [], h => h.elim
theorem FitL.get {ρ : List Nat} {σ : St} : ∀ {l0 l : List AV}, FitL ρ σ l0 l → ∀ (k : Nat) (u0 u : AV), l0[k]? = some u0 → l[k]? = some u → Fit ρ σ u0 u
  | [], _, _, k, u0, u, h0, _ => by simp at h0
  | _ :: _, _ :: _, h, 0, u0, u, h0, h1 => by simp at h0 h1; subst h0 h1; exact h.1
  | _ :: _, _ :: _, h, k + 1, u0, u, h0, h1 => FitL.get h.2 k u0 u (by simpa using h0) (by simpa using h1)
  | _ :: _, [], h, _, _, _, _, _ => h.elim
theorem Fit.al {ρ : List Nat} {σ : St} {l0 l : List AV} (h : FitL ρ σ l0 l) : Fit ρ σ (.a l0) (.a l) := .a h.len h.get
theorem Fit.tl {ρ : List Nat} {σ : St} {l0 l : List AV} (h : FitL ρ σ l0 l) : Fit ρ σ (.t l0) (.t l) := .t h.len h.get
theorem Fit.fl {ρ : List Nat} {σ : St} {fn : Fn} {l0 l c0 c : List AV} (h : FitL ρ σ l0 l) (h' : FitL ρ σ c0 c) : Fit ρ σ (.f fn l0 c0) (.f fn l c) := .f h.len h.get h'.len h'.get
theorem Fit.v' {ρ : List Nat} {σ : St} {x0 x : Value} (h : x0 = x) : Fit ρ σ (.v x0) (.v x) := h ▸ .v x0

/-- Blocks. -/
inductive FitB (ρ : List Nat) (σ : St) : Blk → Blk → Prop
  | gone (B : Blk) : FitB ρ σ .gone B
  | lit {l0 l : List AV} (h : FitL ρ σ l0 l) : FitB ρ σ (.lit l0) (.lit l)
  | tab {sz n : Nat} {g0 g : Nat → List AV} (h : ∀ k, k < n → g0 k = g k) : FitB ρ σ (.tab sz n g0) (.tab sz n g)
  | lrec (e : Ex) : FitB ρ σ (.lrec e) (.lrec e)
  | held : FitB ρ σ .held .held
  | tabv {sz n : Nat} {g0 g : Nat → List AV} {rs0 rs : List Nat} (h : ∀ k, k < n → FitL ρ σ (g0 k) (g k)) : FitB ρ σ (.tabv sz n g0 rs0) (.tabv sz n g rs)
  | tv {sz n : Nat} {g0 g : Nat → List AV} {rs0 : List Nat} (h : ∀ k, k < n → FitL ρ σ (g0 k) (g k)) : FitB ρ σ (.tabv sz n g0 rs0) (.tab sz n g)
  | vt {sz n : Nat} {g0 g : Nat → List AV} {rs : List Nat} (h : ∀ k, k < n → FitL ρ σ (g0 k) (g k)) (hp : ∀ k, k < n → ∀ u ∈ g0 k, pureCell u = true) : FitB ρ σ (.tab sz n g0) (.tabv sz n g rs)
  | tp {sz n : Nat} {g0 g : Nat → List AV} (h : ∀ k, k < n → FitL ρ σ (g0 k) (g k)) (hp : ∀ k, k < n → ∀ u ∈ g0 k, pureCell u = true) : FitB ρ σ (.tab sz n g0) (.tab sz n g)
  | map (es : List MapEntry) (c : Nat) : FitB ρ σ (.map es c) (.map es c)
  | iter {m0 m : Nat} (since : Nat) (seen : List Nat) (st : Nat) (h : ρ[m0]? = some m) : FitB ρ σ (.iter m0 since seen st) (.iter m since seen st)
def FitS (ρ : List Nat) (σ : St) : List Nat → St → Prop
  | [], [] => True
  | m :: ms, B0 :: Bs => (∃ B, σ[m]? = some B ∧ FitB ρ σ B0 B) ∧ FitS ρ σ ms Bs
  | _, _ => False
theorem FitS.len {ρ : List Nat} {σ : St} : ∀ {ms : List Nat} {s : St}, FitS ρ σ ms s → ms.length = s.length
  | [], [], _ => rfl
  | _ :: _, _ :: _, h => by simp [FitS.len h.2]
  | [], _ :: _, h => h.elim
  | _ :: _, [], h => h.elim
theorem FitS.get {ρ : List Nat} {σ : St} : ∀ {ms : List Nat} {s : St}, FitS ρ σ ms s → ∀ (k : Nat) (B0 : Blk), s[k]? = some B0 → ∃ m B, ms[k]? = some m ∧ σ[m]? = some B ∧ FitB ρ σ B0 B
  | [], [], _, k, B0, h0 => by simp at h0
  | m :: ms, B1 :: s, h, 0, B0, h0 => by simp at h0; subst h0; obtain ⟨B, e, g⟩ := h.1; exact ⟨m, B, rfl, e, g⟩
  | m :: ms, B1 :: s, h, k + 1, B0, h0 => by obtain ⟨m', B, e1, e2, e3⟩ := FitS.get h.2 k B0 (by simpa using h0); exact ⟨m', B, by simpa using e1, e2, e3⟩
  | [], _ :: _, h, _, _, _ => h.elim
  | _ :: _, [], h, _, _, _ => h.elim

/-- The state (f0, σ0) says no more than (f, σ). -/
def idUpto (nb : Nat) (ρ : List Nat) : Bool := (List.range nb).all fun l => match ρ[l]? with | some m => Nat.beq m l | none => false
theorem idUpto_spec {nb : Nat} {ρ : List Nat} (h : idUpto nb ρ = true) {l : Nat} (hl : l < nb) : ρ[l]? = some l := by
  have := List.all_eq_true.1 h l (List.mem_range.2 hl)
  split at this
  · rename_i m hm; rw [hm, Nat.eq_of_beq_eq_true this]
  · cases this
/-- The slice nil, taken as one of no elements. -/
inductive Gh (l sz : Nat) : AV → AV → Prop
  | nil : Gh l sz (.v (.slice none 0 0)) (.s l sz 0 0)
  | t {us : List AV} {k : Nat} {u u' : AV} (hk : us[k]? = some u) (h : Gh l sz u u') : Gh l sz (.t us) (.t (us.set k u'))
theorem Gh.ok {l sz : Nat} {R : Nat → Prop} {φ : Phi} {W : World} (hφ : φ l = some none) {u u' : AV} (h : Gh l sz u u') : ∀ {x : Value}, VR R φ W u x → VR R φ W u' x := by
  induction h with
  | nil => intro x hx; rw [hx.val]; exact .nil hφ
  | t hk h ih =>
    intro x hx
    obtain ⟨vs, rfl, hl, hr⟩ := hx.tup
    refine .t (by rw [List.length_set]; exact hl) fun j u0 y hu hy => ?_
    rw [List.getElem?_set] at hu
    split at hu
    · rename_i e
      subst e
      split at hu
      · obtain rfl := Option.some.inj hu
        exact ih (hr _ _ _ hk hy)
      · cases hu
    · exact hr j u0 y hu hy
/-- No root is taken twice, but where it is gone. -/
def goneB : Option Blk → Bool
  | some .gone => true
  | _ => false
def uniqB (ρ : List Nat) (σ0 : St) : Bool := (List.range ρ.length).all fun l => (List.range ρ.length).all fun l' => match Nat.beq l l' with
  | true => true
  | false => match ρ[l]?, ρ[l']? with
    | some m, some m' => match Nat.beq m m' with
      | true => match goneB σ0[l]? with
        | true => true
        | false => goneB σ0[l']?
      | false => true
    | _, _ => true
def Uniq (ρ : List Nat) (σ0 : St) : Prop := ∀ (l l' m : Nat), ρ[l]? = some m → ρ[l']? = some m → l ≠ l' → σ0[l]? = some .gone ∨ σ0[l']? = some .gone
theorem goneB_eq {B : Option Blk} (h : goneB B = true) : B = some .gone := by
  unfold goneB at h
  split at h
  · rfl
  · cases h
theorem uniqB_spec {ρ : List Nat} {σ0 : St} (h : uniqB ρ σ0 = true) : Uniq ρ σ0 := fun l l' m e e' hne => by
  have h1 := List.all_eq_true.1 (List.all_eq_true.1 h l (List.mem_range.2 (lt_of_get? e))) l' (List.mem_range.2 (lt_of_get? e'))
  have hb : Nat.beq l l' = false := by
    cases hb : Nat.beq l l' with
    | false => rfl
    | true => exact absurd (Nat.eq_of_beq_eq_true hb) hne
  simp only [hb, e, e', Nat.beq_refl] at h1
  split at h1
  · rename_i hg; exact .inl (goneB_eq hg)
  · exact .inr (goneB_eq h1)
theorem uniq_nodup {ρ : List Nat} {σ0 : St} (hnd : ρ.Nodup) : Uniq ρ σ0 := fun l l' m e1 e1' hne => by
  have l1 := lt_of_get? e1
  have l2 := lt_of_get? e1'
  rw [List.getElem?_eq_getElem l1] at e1
  rw [List.getElem?_eq_getElem l2] at e1'
  exact absurd ((List.getElem_inj hnd).1 ((Option.some.inj e1).trans (Option.some.inj e1').symm)) hne
/-- The state (f0, σ0) says no more than (f, σ); the first nb roots keep their names. -/
inductive Cov (nb : Nat) (f0 : List AV) (σ0 : St) : List AV → St → Prop
  | refl : Cov nb f0 σ0 f0 σ0
  | mk {f : List AV} {σ : St} (ρ : List Nat) (hn : ρ.Nodup) (h1 : FitL ρ σ f0 f) (h2 : FitS ρ σ ρ σ0) (hid : idUpto nb ρ = true) : Cov nb f0 σ0 f σ
  | mkd {f : List AV} {σ : St} (ρ : List Nat) (hn : uniqB ρ σ0 = true) (h1 : FitL ρ σ f0 f) (h2 : FitS ρ σ ρ σ0) (hid : idUpto nb ρ = true) : Cov nb f0 σ0 f σ
  | slot {f : List AV} {σ : St} (i sz : Nat) (u u' : AV) (hf : f[i]? = some u) (hz : 0 < sz) (hu : Gh σ.length sz u u') (h : Cov nb f0 σ0 (f.set i u') (σ ++ [.tab sz 0 fun _ => []])) : Cov nb f0 σ0 f σ
  | cell {f : List AV} {σ : St} (m j sz : Nat) (cs : List AV) (u u' : AV) (hm : σ[m]? = some (.lit cs)) (hj : cs[j]? = some u) (hz : 0 < sz) (hu : Gh σ.length sz u u') (h : Cov nb f0 σ0 f (σ.set m (.lit (cs.set j u')) ++ [.tab sz 0 fun _ => []])) : Cov nb f0 σ0 f σ

theorem Rel.ghost {F0 : Nat → Nat → Prop} {W0 : World} {R : Nat → Prop} {φ : Phi} {σ : St} {f : List AV} {tmps : Array Value} {W : World} (h : Rel F0 W0 R φ σ f tmps W) {sz : Nat} (hz : 0 < sz) (g : Nat → List AV) :
    Rel F0 W0 R (upd φ σ.length none) (σ ++ [.tab sz 0 g]) f tmps W := by
  have hnone : φ σ.length = none := h.sim.dom _ (Nat.le_refl _)
  refine Rel.turn h (l := σ.length) (src := σ.length) (B' := .tab sz 0 g) (G := fun _ _ => False) (Keep.refl _ _) (upd_ext _ hnone) (fun m hm h => upd_none hm h) (fun b k hg => hg.elim) ⟨hz, by simp, fun k hk => by omega, .inl ⟨upd_same _ _ _, rfl⟩⟩ (fun b k hw => ?_) (fun m B0 e => ?_) fun m hm => ?_
  · obtain ⟨o, e⟩ := hw
    rw [upd_same] at e
    cases e
  · rcases append_get e with ⟨rfl, rfl⟩ | ⟨hne, e⟩
    · exact .inl ⟨rfl, rfl⟩
    · exact .inr (.inr ⟨hne, hne, e⟩)
  · simp only [List.length_append, List.length_cons, List.length_nil] at hm
    unfold upd
    rw [if_neg (by omega)]
    exact h.sim.dom m (by omega)
theorem Rel.slot {F0 : Nat → Nat → Prop} {W0 : World} {R : Nat → Prop} {φ : Phi} {σ : St} {f : List AV} {tmps : Array Value} {W : World} (h : Rel F0 W0 R φ σ f tmps W) {i : Nat} {u u' : AV} (hf : f[i]? = some u) (hu : ∀ {x : Value}, VR R φ W u x → VR R φ W u' x) :
    Rel F0 W0 R φ σ (f.set i u') tmps W := by
  refine ⟨h.sim, fun t v hv => ?_, h.reg, h.keep, by rw [List.length_set]; exact h.len⟩
  rw [List.getElem?_set] at hv
  split at hv
  · rename_i e
    subst e
    split at hv
    · obtain rfl := Option.some.inj hv
      exact hu (h.fr _ _ hf)
    · cases hv
  · exact h.fr t v hv
theorem Rel.cell {F0 : Nat → Nat → Prop} {W0 : World} {R : Nat → Prop} {φ : Phi} {σ : St} {f : List AV} {tmps : Array Value} {W : World} (h : Rel F0 W0 R φ σ f tmps W) {m j : Nat} {cs : List AV} {u u' : AV} (hm : σ[m]? = some (.lit cs)) (hj : cs[j]? = some u) (hu : ∀ {x : Value}, VR R φ W u x → VR R φ W u' x) :
    Rel F0 W0 R φ (σ.set m (.lit (cs.set j u'))) f tmps W := by
  have get : ∀ {l : Nat} {B' : Blk}, (σ.set m (.lit (cs.set j u')))[l]? = some B' → ∃ B, σ[l]? = some B ∧ (∀ b k, own φ l B' b k → own φ l B b k) ∧ (BlkOk R φ W l B → BlkOk R φ W l B') := fun {l B'} e => by
    rw [List.getElem?_set] at e
    split at e
    · rename_i hl
      subst hl
      split at e
      · obtain rfl := Option.some.inj e
        refine ⟨_, hm, fun b k ho => ?_, fun hb => ?_⟩
        · obtain ⟨o, e1, e2, e3⟩ := ho
          exact ⟨o, e1, e2, by rwa [List.length_set] at e3⟩
        · obtain ⟨b, o, e1, fr, hg⟩ := hb
          refine ⟨b, o, e1, fr, fun k v hv => ?_⟩
          rw [List.getElem?_set] at hv
          split at hv
          · rename_i hk
            subst hk
            split at hv
            · obtain rfl := Option.some.inj hv
              obtain ⟨x, hx, hr⟩ := hg _ _ hj
              exact ⟨x, hx, hu hr⟩
            · cases hv
          · exact hg k v hv
      · cases e
    · exact ⟨B', e, fun _ _ h => h, fun h => h⟩
  refine ⟨⟨fun l B' e => ?_, fun l l' B0 B0' hne e e' b k k' w w' => ?_, fun l B0 e b k w => ?_, h.sim.old, fun l hl => h.sim.dom l (by rwa [List.length_set] at hl)⟩, h.fr, fun l B0 e b k w => ?_, h.keep, h.len⟩
  · obtain ⟨B, e1, _, e3⟩ := get e
    exact e3 (h.sim.blk l B e1)
  · obtain ⟨B, e1, e2, _⟩ := get e
    obtain ⟨B1, e1', e2', _⟩ := get e'
    exact h.sim.sep l l' B B1 hne e1 e1' b k k' (e2 b k w) (e2' b k' w')
  · obtain ⟨B, e1, e2, _⟩ := get e
    exact h.sim.ro l B e1 b k (e2 b k w)
  · obtain ⟨B, e1, e2, _⟩ := get e
    exact h.reg l B e1 b k (e2 b k w)

theorem FitB.own {ρ : List Nat} {σ : St} {φ φ0 : Phi} {l m : Nat} (hφ : φ0 l = φ m) {B0 B : Blk} (h : FitB ρ σ B0 B) {b k : Nat} (ho : own φ0 l B0 b k) : own φ m B b k := by
  cases h with
  | gone => exact ho.elim
  | lit h => obtain ⟨o, e, h1, h2⟩ := ho; exact ⟨o, by rw [← hφ]; exact e, h1, by rw [← h.len]; exact h2⟩
  | tab h => obtain ⟨o, e⟩ := ho; exact ⟨o, by rw [← hφ]; exact e⟩
  | lrec e => have ho : φ0 l = some (some (b, 0)) := ho; exact (by rw [← hφ]; exact ho : φ m = some (some (b, 0)))
  | held => have ho : φ0 l = some (some (b, 0)) := ho; exact (by rw [← hφ]; exact ho : φ m = some (some (b, 0)))
  | tabv h => obtain ⟨o, e⟩ := ho; exact ⟨o, by rw [← hφ]; exact e⟩
  | tv h => obtain ⟨o, e⟩ := ho; exact ⟨o, by rw [← hφ]; exact e⟩
  | vt h hp => obtain ⟨o, e⟩ := ho; exact ⟨o, by rw [← hφ]; exact e⟩
  | tp h hp => obtain ⟨o, e⟩ := ho; exact ⟨o, by rw [← hφ]; exact e⟩
  | map es c => have ho : φ0 l = some (some (b, 0)) := ho; exact (by rw [← hφ]; exact ho : φ m = some (some (b, 0)))
  | iter s seen st h => have ho : φ0 l = some (some (b, 0)) := ho; exact (by rw [← hφ]; exact ho : φ m = some (some (b, 0)))

theorem FitB.ok {ρ : List Nat} {σ : St} {R : Nat → Prop} {φ : Phi} {W : World} (hs : Sim R φ σ W) {l m : Nat} (hl : ρ[l]? = some m) {B0 B : Blk} (hB : σ[m]? = some B) (h : FitB ρ σ B0 B) : BlkOk (more ρ σ φ R) (ren ρ φ) W l B0 := by
  have hren : ren ρ φ l = φ m := by simp only [ren, hl]
  have hb := hs.blk m B hB
  cases h with
  | gone => trivial
  | lit h =>
    obtain ⟨b, o, e, fr, g⟩ := hb
    refine ⟨b, o, by rw [hren]; exact e, fr, fun k u0 hu0 => ?_⟩
    obtain ⟨u, hu⟩ := get?_of_lt (by rw [← h.len]; exact lt_of_get? hu0)
    obtain ⟨x, hx, hv⟩ := g k u hu
    exact ⟨x, hx, (h.get k u0 u hu0 hu).ok hs hv⟩
  | tab h =>
    obtain ⟨hz, hm, hlen, hblk⟩ := hb
    refine ⟨hz, hm, fun k hk => by rw [h k hk]; exact hlen k hk, ?_⟩
    rcases hblk with ⟨e, h0⟩ | ⟨b, o, e, fr, g⟩
    · exact .inl ⟨by rw [hren]; exact e, h0⟩
    · refine .inr ⟨b, o, by rw [hren]; exact e, fr, fun k j u hk hu => ?_⟩
      obtain ⟨x, hx, hv⟩ := g k j u hk (by rw [← h k hk]; exact hu)
      exact ⟨x, hx, hv.mono (fun b h => .inl h) fun _ _ _ _ h => h⟩
  | lrec e =>
    obtain ⟨b, r, e1, g⟩ := hb
    exact ⟨b, r, by rw [hren]; exact e1, g⟩
  | held =>
    obtain ⟨b, r, e1, g⟩ := hb
    exact ⟨b, r, by rw [hren]; exact e1, g⟩
  | tabv h =>
    obtain ⟨hz, hm, hlen, hblk⟩ := hb
    refine ⟨hz, hm, fun k hk => by rw [(h k hk).len]; exact hlen k hk, ?_⟩
    rcases hblk with ⟨e, h0⟩ | ⟨b, o, e, fr, g⟩
    · exact .inl ⟨by rw [hren]; exact e, h0⟩
    · refine .inr ⟨b, o, by rw [hren]; exact e, fr, fun k j u0 hk hu0 => ?_⟩
      obtain ⟨u, hu⟩ := get?_of_lt (by rw [← (h k hk).len]; exact lt_of_get? hu0)
      obtain ⟨x, hx, hv, hsc⟩ := g k j u hk hu
      exact ⟨x, hx, ((h k hk).get j u0 u hu0 hu).ok hs hv, hsc⟩
  | tv h =>
    obtain ⟨hz, hm, hlen, hblk⟩ := hb
    refine ⟨hz, hm, fun k hk => by rw [(h k hk).len]; exact hlen k hk, ?_⟩
    rcases hblk with ⟨e, h0⟩ | ⟨b, o, e, fr, g⟩
    · exact .inl ⟨by rw [hren]; exact e, h0⟩
    · refine .inr ⟨b, o, by rw [hren]; exact e, fr, fun k j u0 hk hu0 => ?_⟩
      obtain ⟨u, hu⟩ := get?_of_lt (by rw [← (h k hk).len]; exact lt_of_get? hu0)
      obtain ⟨x, hx, hv⟩ := g k j u hk hu
      exact ⟨x, hx, ((h k hk).get j u0 u hu0 hu).ok hs (.imm hv.1), hv.2⟩
  | vt h hp =>
    obtain ⟨hz, hm, hlen, hblk⟩ := hb
    refine ⟨hz, hm, fun k hk => by rw [(h k hk).len]; exact hlen k hk, ?_⟩
    rcases hblk with ⟨e, h0⟩ | ⟨b, o, e, fr, g⟩
    · exact .inl ⟨by rw [hren]; exact e, h0⟩
    · refine .inr ⟨b, o, by rw [hren]; exact e, fr, fun k j u0 hk hu0 => ?_⟩
      obtain ⟨u, hu⟩ := get?_of_lt (by rw [← (h k hk).len]; exact lt_of_get? hu0)
      obtain ⟨x, hx, hv, hsc⟩ := g k j u hk hu
      exact ⟨x, hx, pureCell_ok (((h k hk).get j u0 u hu0 hu).ok hs hv) (hp k hk u0 (List.mem_of_getElem? hu0))⟩
  | tp h hp =>
    obtain ⟨hz, hm, hlen, hblk⟩ := hb
    refine ⟨hz, hm, fun k hk => by rw [(h k hk).len]; exact hlen k hk, ?_⟩
    rcases hblk with ⟨e, h0⟩ | ⟨b, o, e, fr, g⟩
    · exact .inl ⟨by rw [hren]; exact e, h0⟩
    · refine .inr ⟨b, o, by rw [hren]; exact e, fr, fun k j u0 hk hu0 => ?_⟩
      obtain ⟨u, hu⟩ := get?_of_lt (by rw [← (h k hk).len]; exact lt_of_get? hu0)
      obtain ⟨x, hx, hv⟩ := g k j u hk hu
      exact ⟨x, hx, pureCell_ok (((h k hk).get j u0 u hu0 hu).ok hs (.imm hv.1)) (hp k hk u0 (List.mem_of_getElem? hu0))⟩
  | map es c =>
    obtain ⟨b, e1, g⟩ := hb
    exact ⟨b, by rw [hren]; exact e1, g⟩
  | iter s seen st h =>
    obtain ⟨b, bm, e1, e2, g⟩ := hb
    exact ⟨b, bm, by rw [hren]; exact e1, by simp only [ren, h]; exact e2, g⟩

theorem cov_rel {ρ : List Nat} {f0 : List AV} {σ0 : St} {f : List AV} {σ : St} (hnd : Uniq ρ σ0) (hf : FitL ρ σ f0 f) (hs : FitS ρ σ ρ σ0) {F0 : Nat → Nat → Prop} {W0 : World} {R : Nat → Prop} {φ : Phi} {tmps : Array Value} {W : World} (hrel : Rel F0 W0 R φ σ f tmps W) :
    (∀ b, R b → more ρ σ φ R b) ∧ (∀ b, more ρ σ φ R b → R b ∨ W0.heap.size ≤ b ∨ ∃ k, F0 b k) ∧ Rel F0 W0 (more ρ σ φ R) (ren ρ φ) σ0 f0 tmps W := by
  have hsim := hrel.sim
  have hget : ∀ {l : Nat} {B0 : Blk}, σ0[l]? = some B0 → ∃ m B, ρ[l]? = some m ∧ σ[m]? = some B ∧ FitB ρ σ B0 B := fun h => hs.get _ _ h
  have hown : ∀ {l : Nat} {B0 : Blk} {b k : Nat}, σ0[l]? = some B0 → own (ren ρ φ) l B0 b k → ∃ m B, ρ[l]? = some m ∧ σ[m]? = some B ∧ own φ m B b k := fun h ho => by
    obtain ⟨m, B, e1, e2, e3⟩ := hget h
    exact ⟨m, B, e1, e2, e3.own (by simp only [ren, e1]) ho⟩
  refine ⟨fun b h => .inl h, fun b h => ?_, ⟨⟨fun l B0 e => ?_, fun l l' B0 B0' hne e e' b k k' w w' => ?_, fun l B0 e b k w hR => ?_, hsim.old.to (fun _ h => .inl h) (fun _ _ _ _ h => h) fun b hR => ?_, fun l hl => ?_⟩, fun t u0 hu0 => ?_, fun l B0 e b k w => ?_, hrel.keep, hf.len.trans hrel.len⟩⟩
  · rcases h with h | ⟨m, B, k, _, e, w⟩
    · exact .inl h
    · rcases hrel.reg m B e b k w with h | h
      · exact .inr (.inr ⟨k, h⟩)
      · exact .inr (.inl h)
  · obtain ⟨m, B, e1, e2, e3⟩ := hget e
    exact e3.ok hsim e1 e2
  · obtain ⟨m, B, e1, e2, w1⟩ := hown e w
    obtain ⟨m', B', e1', e2', w1'⟩ := hown e' w'
    by_cases he : m = m'
    · subst he
      rcases hnd l l' m e1 e1' hne with g | g
      · rw [e] at g
        obtain rfl := Option.some.inj g
        exact w.elim
      · rw [e'] at g
        obtain rfl := Option.some.inj g
        exact w'.elim
    · exact hsim.sep m m' B B' he e2 e2' b k k' w1 w1'
  · obtain ⟨m, B, e1, e2, w1⟩ := hown e w
    rcases hR with hR | ⟨m', B', k', hm', e', w'⟩
    · exact hsim.ro m B e2 b k w1 hR
    · exact hsim.sep m m' B B' (fun he => hm' (he ▸ List.mem_of_getElem? e1)) e2 e' b k k' w1 w'
  · rcases hR with hR | ⟨m', B', k', hm', e', w'⟩
    · exact hsim.old b hR
    · exact (hsim.blk m' B' e').owned w'
  · have : ρ[l]? = none := List.getElem?_eq_none (by rw [hs.len]; exact hl)
    simp only [ren, this]
  · obtain ⟨u, hu⟩ := get?_of_lt (by rw [← hf.len]; exact lt_of_get? hu0)
    exact (hf.get t u0 u hu0 hu).ok hsim (hrel.fr t u hu)
  · obtain ⟨m, B, e1, e2, w1⟩ := hown e w
    exact hrel.reg m B e2 b k w1

theorem Cov.holds {nb : Nat} {f0 : List AV} {σ0 : St} {f : List AV} {σ : St} (h : Cov nb f0 σ0 f σ) {E : Ent} (hE : E.σ.length ≤ nb) (hd : ∀ l, E.σ.length ≤ l → E.φ l = none) {a : Act} {w : World} (hh : Holds E f σ a w) : Holds E f0 σ0 a w := by
  induction h with
  | refl => exact hh
  | slot i sz u u' hf hz hu _ ih =>
    refine ih ?_
    obtain ⟨R, φ, hT, hl, hfr, hm⟩ := hh
    have hg := (localRel hT.sim hl hfr).ghost hz fun _ => []
    have hg' := hg.slot hf fun {x} hx => hu.ok (upd_same _ _ _) hx
    exact ⟨R, _, hT.trans (turn_of_rel (fun _ h => h) (fun _ h => .inl h) (upd_ext _ (hT.sim.dom _ (Nat.le_refl _))) hg'), hg'.len, hg'.fr, hm⟩
  | cell m j sz cs u u' hm1 hj hz hu _ ih =>
    refine ih ?_
    obtain ⟨R, φ, hT, hl, hfr, hm⟩ := hh
    have hlt := lt_of_get? hm1
    have hg := (localRel hT.sim hl hfr).ghost hz fun _ => []
    have hg' := hg.cell (m := m) (j := j) (cs := cs) (u' := u') (by rw [List.getElem?_append_left hlt]; exact hm1) hj fun {x} hx => hu.ok (upd_same _ _ _) hx
    rw [List.set_append_left _ _ hlt] at hg'
    exact ⟨R, _, hT.trans (turn_of_rel (fun _ h => h) (fun _ h => .inl h) (upd_ext _ (hT.sim.dom _ (Nat.le_refl _))) hg'), hg'.len, hg'.fr, hm⟩
  | mk ρ hnd h1 h2 hid =>
    obtain ⟨R, φ, hT, hl, hf, hm⟩ := hh
    obtain ⟨g1, g2, grel⟩ := cov_rel (uniq_nodup hnd) h1 h2 (localRel hT.sim hl hf)
    refine ⟨more ρ _ φ R, ren ρ φ, ⟨fun b hb => g1 b (hT.hR b hb), fun b hb => ?_, fun l p hp => ?_, grel.sim, fun b k ⟨l, B, e, hw⟩ => ?_, hT.keep⟩, grel.len, grel.fr, hm⟩
    · rcases g2 b hb with h | h | ⟨k, h⟩
      · exact hT.hR' b h
      · exact .inr (.inl (Nat.le_trans hT.keep.size h))
      · rcases hT.reg b k h with h | h
        · exact .inr (.inr ⟨k, h⟩)
        · exact .inr (.inl h)
    · have hlt : l < E.σ.length := by
        rcases Nat.lt_or_ge l E.σ.length with h | h
        · exact h
        · rw [hd l h] at hp; cases hp
      simp only [ren, idUpto_spec hid (Nat.lt_of_lt_of_le hlt hE)]
      exact hT.ext l p hp
    · rcases grel.reg l B e b k hw with h | h
      · exact hT.reg b k h
      · exact .inr (Nat.le_trans hT.keep.size h)
  | mkd ρ hnd h1 h2 hid =>
    obtain ⟨R, φ, hT, hl, hf, hm⟩ := hh
    obtain ⟨g1, g2, grel⟩ := cov_rel (uniqB_spec hnd) h1 h2 (localRel hT.sim hl hf)
    refine ⟨more ρ _ φ R, ren ρ φ, ⟨fun b hb => g1 b (hT.hR b hb), fun b hb => ?_, fun l p hp => ?_, grel.sim, fun b k ⟨l, B, e, hw⟩ => ?_, hT.keep⟩, grel.len, grel.fr, hm⟩
    · rcases g2 b hb with h | h | ⟨k, h⟩
      · exact hT.hR' b h
      · exact .inr (.inl (Nat.le_trans hT.keep.size h))
      · rcases hT.reg b k h with h | h
        · exact .inr (.inr ⟨k, h⟩)
        · exact .inr (.inl h)
    · have hlt : l < E.σ.length := by
        rcases Nat.lt_or_ge l E.σ.length with h | h
        · exact h
        · rw [hd l h] at hp; cases hp
      simp only [ren, idUpto_spec hid (Nat.lt_of_lt_of_le hlt hE)]
      exact hT.ext l p hp
    · rcases grel.reg l B e b k hw with h | h
      · exact hT.reg b k h
      · exact .inr (Nat.le_trans hT.keep.size h)
end Go.Proofs.Ythdeehkmlaejfaa.E
/- The engine, part 20: code, loops by what is told of them, ranges over functions, functions. -/
namespace Go.Proofs.Ythdeehkmlaejfaa.E
open Go
set_option linter.unusedSimpArgs false
set_option linter.unusedVariables false
noncomputable section

/-- What goes on behind. -/
abbrev Cont := Ex → List AV → St → Option Prop

structure Cx where
  tt : List TE
  cs : Ctrs
  kd : Kinds
  ks : Runs

/-- A frame, written out. -/
def normF {α : Type} : List AV → (List AV → α) → α
  | [], K => K []
  | u :: l, K => forceK u fun u => normF l fun l => K (u :: l)
theorem normF_eq {α : Type} : ∀ (l : List AV) (K : List AV → α), normF l K = K l
  | [], _ => rfl
  | u :: l, K => by simp only [normF, forceK_eq]; exact normF_eq l _

/-- An operation that is done by its contract, with what goes on behind it. -/
def doD (tt : List TE) (cs : Ctrs) (o : Oper) (f : List AV) (σ : St) (K : List AV → St → Option Prop) : Option Prop :=
  match o.op with
  | .pick c a b => match ev f c with
    | .v (.bool x) => cond x (putK f o.dst (ev f a) σ K) (putK f o.dst (ev f b) σ K)
    | _ => none
  | .call { callee := .value g, args := args, .. } => match ev f g with
    | .f (.func g) us ls => match ctr cs g with
      | some G => match G (us ++ args.toList.map (ev f) ++ ls) σ with
        | some (c, u, σ') => cond c (putK f o.dst u σ' K) none
        | none => none
      | none => none
    | _ => none
  | op => match aOp tt op f σ with
    | some (c, u, σ') => cond c (putK f o.dst u σ' K) none
    | none => none
def doE (X : Cx) (N : Nat) (ops : List Oper) (o : Oper) (f : List AV) (σ : St) (K : List AV → St → Option Prop) : Option Prop :=
  match isNew o.op with
  | true => match aOp X.tt o.op f [] with
    | some (c, u, [B]) => match σ[slotOf N ops o]? with
      | some .free => cond c (putK f o.dst (atR (slotOf N ops o) u) (σ.set (slotOf N ops o) B) K) none
      | _ => none
    | _ => none
  | false => doD X.tt X.cs o f σ K
def stepD (X : Cx) (N : Nat) (ops : List Oper) (o : Oper) (f : List AV) (σ : St) (K : List AV → St → Lab → Option Prop) : Option Prop :=
  match o.guard with
  | none => doE X N ops o f σ fun f' σ' => K f' σ' (labV X.kd N ops o f σ)
  | some (j, want) => match gval ops f j with
    | some (some b) => cnd want b (doE X N ops o f σ fun f' σ' => K f' σ' (labV X.kd N ops o f σ)) (putK f o.dst (.v undef) σ fun f' σ' => K f' σ' lab0)
    | some none => putK f o.dst (.v undef) σ fun f' σ' => K f' σ' lab0
    | none => none
/-- A region that draws its order; calls that are no contract's part it. -/
def drawN (X : Cx) (Y : YE) (N : Nat) (ops : Array Oper) : List Oper → Nat → List AV → St → List Lab → (List AV → St → List Lab → Option Prop) → Option Prop
  | [], _, f, σ, ls, K => K f σ ls
  | o :: l, i, f, σ, ls, K => match isCut X.kd o.op with
    | true => match okPre X.kd ops ls i with
      | true => match cutOk ops i with
        | true => stepK X.tt X.cs X.ks Y ops.toList o f σ fun f' σ' => normL (ls ++ [lab0]) fun ls => drawN X Y N ops l (i + 1) f' σ' ls K
        | false => none
      | false => none
    | false => stepD X N ops.toList o f σ fun f' σ' lb => normL lb.rd fun rd => normL lb.wr fun wr => normL (ls ++ [⟨lb.n, rd, wr, lb.ap⟩]) fun ls => drawN X Y N ops l (i + 1) f' σ' ls K

theorem doD_eq {tt : List TE} {cs : Ctrs} {o : Oper} {f : List AV} {σ : St} {K : List AV → St → Option Prop} (h : tr (doD tt cs o f σ K)) : ∃ u σ', doV tt cs o f σ = some (u, σ') ∧ tr (K (put1 f o.dst u) σ') := by
  unfold doD at h
  unfold doV
  split at h
  · rename_i c a b hop
    split at h
    · rename_i x hx
      simp only [hop, hx]
      cases x <;> simp only [cond, putK_eq] at h <;> exact ⟨_, _, rfl, h⟩
    · exact h.elim
  · rename_i g args ats hop
    split at h
    case h_2 => exact h.elim
    rename_i g' us ls hg
    split at h
    case h_2 => exact h.elim
    rename_i G hG
    split at h
    case h_2 => exact h.elim
    rename_i c u σ' h0
    cases c with
    | false => exact h.elim
    | true =>
      simp only [cond, putK_eq] at h
      exact ⟨u, σ', by simp only [hop, hg, hG, h0, cond], h⟩
  · rename_i op hnp hnc
    split at h
    case h_2 => exact h.elim
    rename_i c u σ' h0
    cases c with
    | false => exact h.elim
    | true =>
      simp only [cond, putK_eq] at h
      refine ⟨u, σ', ?_, h⟩
      split
      · rename_i h; exact absurd h (hnp _ _ _)
      · rename_i h; exact absurd h (hnc _ _ _)
      · simp only [h0, cond]

theorem doE_eq {X : Cx} {N : Nat} {ops : List Oper} {o : Oper} {f : List AV} {σ : St} {K : List AV → St → Option Prop} (h : tr (doE X N ops o f σ K)) : ∃ u σ', doS X.tt X.cs N ops o f σ = some (u, σ') ∧ tr (K (put1 f o.dst u) σ') := by
  unfold doE at h
  unfold doS
  split at h
  · rename_i hn
    simp only [hn]
    split at h
    case h_2 => exact h.elim
    rename_i c u B ha
    split at h
    case h_2 => exact h.elim
    rename_i hf
    cases c with
    | false => exact h.elim
    | true =>
      simp only [cond, putK_eq] at h
      exact ⟨_, _, by simp only [ha, hf, cond], h⟩
  · rename_i hn
    simp only [hn]
    exact doD_eq h
theorem stepD_eq {X : Cx} {N : Nat} {ops : List Oper} {o : Oper} {f : List AV} {σ : St} {K : List AV → St → Lab → Option Prop} (h : tr (stepD X N ops o f σ K)) : ∃ f' σ', stepS X.tt X.cs N ops o f σ = some (f', σ') ∧ tr (K f' σ' (labF X.kd N ops o f σ)) := by
  unfold stepD at h
  unfold stepS valS labF
  cases hg : o.guard with
  | none =>
    simp only [hg] at h ⊢
    obtain ⟨u, σ', h1, h2⟩ := doE_eq h
    exact ⟨_, _, by rw [h1], h2⟩
  | some jw =>
    obtain ⟨j, want⟩ := jw
    simp only [hg] at h ⊢
    cases hb : gval ops f j with
    | none => simp only [hb] at h; exact h.elim
    | some b =>
      cases b with
      | none =>
        simp only [hb, putK_eq] at h ⊢
        exact ⟨_, _, rfl, h⟩
      | some b =>
        simp only [hb, cnd_eq] at h ⊢
        cases hq : (b == want) with
        | true =>
          simp only [hq, cond] at h ⊢
          obtain ⟨u, σ', h1, h2⟩ := doE_eq h
          exact ⟨_, _, by rw [h1], h2⟩
        | false =>
          simp only [hq, cond, putK_eq] at h ⊢
          exact ⟨_, _, rfl, h⟩

/-- What holds behind a round of a loop. -/
def After {β : Type} (nb : Nat) (inv : β → Prop) (hf : β → List AV) (hs : β → St) (μ : β → Nat) (x : β) (K : Ex → List AV → St → Prop) : Ex → List AV → St → Prop
  | .normal, f, σ => ∃ y, inv y ∧ μ y < μ x ∧ Cov nb (hf y) (hs y) f σ
  | e, f, σ => K e f σ ∨ ∃ f0 σ0, Cov nb f0 σ0 f σ ∧ K e f0 σ0
/-- A loop, by a family of states at its head. -/
def LoopP (nb : Nat) (round : List AV → St → (Ex → List AV → St → Prop) → Option Prop) (f : List AV) (σ : St) (K : Ex → List AV → St → Prop) : Prop :=
  ∃ (β : Type) (inv : β → Prop) (hf : β → List AV) (hs : β → St) (μ : β → Nat) (x0 : β), inv x0 ∧ Cov nb (hf x0) (hs x0) f σ ∧
    ∀ x, inv x → tr (normF (hf x) fun f => normL (hs x) fun σ => round f σ (After nb inv hf hs μ x K))

/-- Slots that are set one behind the other. -/
def setMany (f : List AV) : List Tmp → List AV → List AV
  | p :: ps, u :: us => setMany (f.set p u) ps us
  | _, _ => f
def isN : Ex → Bool
  | .normal => true
  | _ => false

/-- Where ways come together: a family of states from which what is behind goes on. -/
def JoinP (nb : Nat) (first : (List AV → St → Prop) → Option Prop) (rest : List AV → St → Prop) : Prop :=
  ∃ (β : Type) (inv : β → Prop) (hf : β → List AV) (hs : β → St), tr (first fun f σ => ∃ y, inv y ∧ Cov nb (hf y) (hs y) f σ) ∧ ∀ y, inv y → rest (hf y) (hs y)
/-- Whether ways come together behind this piece: told by the context. -/
def hasJ : Kinds → Nat → Bool
  | [], _ => false
  | (g, _) :: l, k => match Nat.beq g k with
    | true => true
    | false => hasJ l k
def isJ (kd : Kinds) : Code → Bool
  | .cond (.tmp n) _ _ => hasJ kd (1000000000 + n)
  | .block id _ => hasJ kd (1000100000 + id)
  | .seq _ (.block id _) => hasJ kd (1000100000 + id)
  | .seq _ (.cond (.tmp n) _ _) => hasJ kd (1000000000 + n)
  | .region id _ _ => hasJ kd (1000200000 + id)
  | _ => false
/-- Code, and what goes on behind it. nb: so many roots keep their names. -/
def runC (X : Cx) (Y : YE) (nb : Nat) : Code → List AV → St → Cont → Option Prop
  | .skip, f, σ, K => K .normal f σ
  | .region _ ops false, f, σ, K => opsK X.tt X.cs X.ks Y ops.toList ops.toList f σ (K .normal)
  | .region _ ops true, f, σ, K => normL (σ ++ List.replicate (newD ops.toList).length .free) fun σ0 => drawN X Y σ.length ops ops.toList 0 f σ0 [] fun f' σ' ls => match okDraw X.kd ops ls with
    | true => K .normal f' σ'
    | false => none
  | .seq a b, f, σ, K => match isJ X.kd a with
    | true => some (JoinP nb (fun A => runC X Y nb a f σ fun e f' σ' => match e with
        | .normal => some (A f' σ')
        | e => K e f' σ') fun f σ => tr (normF f fun f => normL σ fun σ => runC X Y nb b f σ K))
    | false => runC X Y nb a f σ fun e f' σ' => match e with
      | .normal => runC X Y nb b f' σ' K
      | e => K e f' σ'
  | .cond c a b, f, σ, K => match ev f c with
    | .v (.bool x) => cond x (runC X Y nb a f σ K) (runC X Y nb b f σ K)
    | _ => none
  | .block id a, f, σ, K => runC X Y nb a f σ fun e f' σ' => match e with
    | .exit j => match Nat.beq j id with
      | true => K .normal f' σ'
      | false => K (.exit j) f' σ'
    | e => K e f' σ'
  | .loop body, f, σ, K => some (LoopP nb (fun f σ A => runC X Y nb body f σ fun e f σ => some (A e f σ)) f σ fun e f' σ' => tr (normF f' fun f' => normL σ' fun σ' => K e f' σ'))
  | .exit id, f, σ, K => K (.exit id) f σ
  | .label _, f, σ, K => K .normal f σ
  | .scope c, f, σ, K => runC X Y nb c f σ K
  | .ret, f, σ, K => K .ret f σ
  | .rangeFunc g ps assign body, f, σ, K => match ev f g with
    | .f (.func gf) us ls => match run X.ks gf with
      | some T => normL (us ++ [.y σ.length] ++ ls) fun as => normL (σ ++ [.lrec .normal]) fun σ1 => T as σ1
          (fun k => match Nat.beq k σ.length with
            | true => some fun args σ2 K1 => match σ2[σ.length]? with
              | some (.lrec .normal) => match Nat.beq args.length ps.size with
                | true => normL (setMany f ps.toList args) fun f1 => runC X Y σ2.length assign f1 σ2 fun e f2 σ3 => match e with
                  | .normal => match σ3[σ.length]? with
                    | some (.lrec .normal) => normL (σ3.set σ.length .held) fun σ3 => runC X Y σ2.length body f2 σ3 fun e _ σ4 => match σ4[σ.length]? with
                      | some .held => normL (σ4.set σ.length (.lrec e)) fun σ4 => K1 (.v (.bool (isN e))) σ4
                      | _ => none
                    | _ => none
                  | _ => none
                | false => none
              | _ => none
            | false => Y k)
          (fun _ σ' => match σ'[σ.length]? with
            | some (.lrec .normal) => normL (σ'.set σ.length .gone) fun σ' => K .normal f σ'
            | some (.lrec e) => normL (σ'.set σ.length .gone) fun σ' => K e f σ'
            | _ => none)
      | none => none
    | _ => none
  | _, _, _, _ => none

structure CxOk (P : Program) (X : Cx) : Prop where
  tt : TTok P X.tt
  cs : CtrsOk P X.cs
  kd : KindsOk X.cs X.kd
  ks : RunsOk P X.ks
  mixed : P.follows .mixedOrders = true

theorem labsF_length {X : Cx} {N : Nat} {ops : List Oper} : ∀ (l : List Oper) (f : List AV) (σ : St) {f' : List AV} {σ' : St}, opsS X.tt X.cs N ops l f σ = some (f', σ') → (labsF X.tt X.cs X.kd N ops l f σ).length = l.length := by
  intro l
  induction l with
  | nil => intro f σ f' σ' _; rfl
  | cons o l ih =>
    intro f σ f' σ' h
    simp only [opsS] at h
    split at h
    · rename_i hs
      simp only [labsF, hs, List.length_cons]
      rw [ih _ _ h]
    · cases h
/-- As far as the first cut. -/
theorem drawN_part {X : Cx} {Y : YE} {N : Nat} {ops : Array Oper} : ∀ (l : List Oper) (i : Nat) (f : List AV) (σ : St) (ls : List Lab) (K : List AV → St → List Lab → Option Prop), tr (drawN X Y N ops l i f σ ls K) →
    ∃ (m : Nat) (f' : List AV) (σ' : St), m ≤ l.length ∧ opsS X.tt X.cs N ops.toList (l.take m) f σ = some (f', σ') ∧ ((m = l.length ∧ tr (K f' σ' (ls ++ labsF X.tt X.cs X.kd N ops.toList (l.take m) f σ))) ∨
      ∃ o, l[m]? = some o ∧ okPre X.kd ops (ls ++ labsF X.tt X.cs X.kd N ops.toList (l.take m) f σ) (i + m) = true ∧ cutOk ops (i + m) = true ∧
        tr (stepK X.tt X.cs X.ks Y ops.toList o f' σ' fun f2 σ2 => drawN X Y N ops (l.drop (m + 1)) (i + m + 1) f2 σ2 (ls ++ labsF X.tt X.cs X.kd N ops.toList (l.take m) f σ ++ [lab0]) K)) := by
  intro l
  induction l with
  | nil => intro i f σ ls K h; exact ⟨0, f, σ, Nat.le_refl _, rfl, .inl ⟨rfl, by simpa [labsF, drawN] using h⟩⟩
  | cons o l ih =>
    intro i f σ ls K h
    simp only [drawN] at h
    split at h
    · split at h
      case h_2 => exact h.elim
      rename_i h1
      split at h
      case h_2 => exact h.elim
      rename_i h2
      simp only [normL_eq] at h
      exact ⟨0, f, σ, Nat.zero_le _, rfl, .inr ⟨o, rfl, by simpa [labsF] using h1, h2, by simpa [labsF] using h⟩⟩
    · obtain ⟨f1, σ1, hs, h⟩ := stepD_eq h
      simp only [normL_eq] at h
      obtain ⟨m, f', σ', h1, h2, h3⟩ := ih (i + 1) f1 σ1 _ K h
      refine ⟨m + 1, f', σ', Nat.succ_le_succ h1, by simp only [List.take_succ_cons, opsS, hs]; exact h2, ?_⟩
      have hl : ls ++ labsF X.tt X.cs X.kd N ops.toList ((o :: l).take (m + 1)) f σ = ls ++ [labF X.kd N ops.toList o f σ] ++ labsF X.tt X.cs X.kd N ops.toList (l.take m) f1 σ1 := by
        simp only [List.take_succ_cons, labsF, hs, List.append_assoc, List.singleton_append]
      rw [hl]
      rcases h3 with ⟨h3, h4⟩ | ⟨o', h3, h4, h5, h6⟩
      · exact .inl ⟨by rw [h3]; rfl, h4⟩
      · have e : i + 1 + m = i + (m + 1) := by omega
        rw [e] at h4 h5 h6
        exact .inr ⟨o', by simpa using h3, h4, h5, by simpa using h6⟩

theorem drawN_any {P : Program} {X : Cx} (hX : CxOk P X) {N : Nat} {ops : Array Oper} {E : Ent} {Y : YE} (hY : YOk P E.R E.φ E.σ E.W Y) {r : Option Nat} {Q : Exit → Act → World → Prop} {K : List AV → St → Option Prop} (hq : ∀ f' σ' a' w', Holds E f' σ' a' w' → tr (K f' σ') → Q .normal a' w') :
    ∀ (n : Nat) (l : List Oper) (i : Nat) (listed : Array Bool) {f : List AV} {σ : St} {ls : List Lab} {a : Act} {w : World}, l.length ≤ n → i ≤ ops.size → l = ops.toList.drop i → ls.length = i → listed.size = ops.size → (∀ k, k < ops.size → (listed.getD k true = false ↔ i ≤ k)) → Holds E f σ a w →
      tr (drawN X Y N ops l i f σ ls fun f' σ' ls => match okDraw X.kd ops ls with | true => K f' σ' | false => none) → wpAnyIn (fen r) 0 P .any ops Q (ops.size - i) listed a w := by
  intro n
  induction n with
  | zero =>
    intro l i listed f σ ls a w hn hi hl hls hsz hL h hr
    obtain rfl : l = [] := List.eq_nil_of_length_eq_zero (Nat.le_zero.1 hn)
    have hlen : (ops.toList.drop i).length = 0 := by rw [← hl]; rfl
    simp at hlen
    have hi' : i = ops.size := by omega
    rw [hi', Nat.sub_self]
    simp only [drawN] at hr
    split at hr
    case h_2 => exact hr.elim
    refine ⟨?_, hq f σ a w h hr⟩
    refine List.eq_nil_iff_forall_not_mem.2 fun k hk => ?_
    obtain ⟨g1, g2, _⟩ := (ready_iff k).1 hk
    have := (hL k g1).1 g2
    omega
  | succ n ih =>
    intro l i listed f σ ls a w hn hi hl hls hsz hL h hr
    obtain ⟨m, f', σ', h1, h2, h3⟩ := drawN_part l i f σ ls _ hr
    have hll : l.length = ops.size - i := by rw [hl]; simp
    have hlab : (labsF X.tt X.cs X.kd N ops.toList (l.take m) f σ).length = m := by rw [labsF_length _ _ _ h2]; simp; omega
    have hget : ∀ j, (l.take m)[j]? = if j < m then ops[i + j]? else none := fun j => by
      rw [List.getElem?_take]
      split
      · rw [hl, List.getElem?_drop]; simp
      · rfl
    have hrange : (List.range' i (l.take m).length) = List.range' i m := by
      rw [List.length_take, Nat.min_eq_left h1]
    generalize hlabs : ls ++ labsF X.tt X.cs X.kd N ops.toList (l.take m) f σ = labs at h3
    have hgl : ∀ j, (labsF X.tt X.cs X.kd N ops.toList (l.take m) f σ)[j]? = none ∨ (labsF X.tt X.cs X.kd N ops.toList (l.take m) f σ).getD j lab0 = labs.getD (i + j) lab0 := fun j => .inr (by
      rw [← hlabs, List.getD_eq_getElem?_getD, List.getD_eq_getElem?_getD, List.getElem?_append_right (by omega), hls]
      congr 2
      omega)
    have hidx : idxP X.tt X.cs X.kd N ops labs f' σ' (List.range' i m) f σ := by
      have := idx_ops' (kd := X.kd) (ops := ops) (labs := labs) (l.take m) i (fun j hj => by
        have hj' : j < m := by rw [List.length_take, Nat.min_eq_left h1] at hj; exact hj
        rw [hget j, if_pos hj']) f σ h2 hgl
      rwa [hrange] at this
    have hlL : ∀ hi', hi' = i + m → ∀ k, k < ops.size → (listed.getD k true = false ↔ (k ∈ List.range' i m ∨ hi' ≤ k)) := fun hi' e k hk => by
      rw [hL k hk, List.mem_range'_1, e]; omega
    have hrg : ∀ k ∈ List.range' i m, i ≤ k ∧ k < i + m := fun k hk => by rw [List.mem_range'_1] at hk; exact hk
    have down : (∀ k o, ops[k]? = some o → ∀ p ∈ bef o, p < k) → ∀ (c : Nat) (ld : Array Bool), ld.size = ops.size → (∀ k, k < ops.size → (ld.getD k true = false ↔ c ≤ k)) → ∀ k o, k < ops.size → ld.getD k true = true → ops[k]? = some o → ∀ p ∈ bef o, ld.getD p false = true := fun hbef c ld hs hc k o hk hkl ho p hp => by
      have hpk := hbef k o ho p hp
      have : ¬ c ≤ k := fun e => by rw [(hc k hk).2 e] at hkl; cases hkl
      rw [← getD_tf (by omega)]
      have h5 : ¬ ld.getD p true = false := fun e => by have := (hc p (by omega)).1 e; omega
      simpa using h5
    rcases h3 with ⟨h3, h4⟩ | ⟨o, h3, h4, h5, h6⟩
    · -- no cut is left
      split at h4
      case h_2 => exact h4.elim
      rename_i hd
      have hm : i + m = ops.size := by omega
      have hdi : ∀ i y, ops[i]? = some y → (∀ p ∈ bef y, p < i) ∧ ∀ j x, j < i → ops[j]? = some x → (∃ m, j ∈ clo ops.toList m i) ∨ indep X.kd ops x y (labs.getD j lab0) (labs.getD i lab0) = true := by
        intro i y hy
        obtain ⟨g1, g2⟩ := okD_spec (kd := X.kd) (ops := ops) (labs := labs) ops.toList labs 0 [] hd rfl rfl rfl (fun k hk => absurd hk (Nat.not_lt_zero k)) i y (Nat.zero_le _) (by simpa using hy)
        exact ⟨g1, fun j x hj hx => g2 j x hj (by simpa using hx)⟩
      have hbef : ∀ k o, ops[k]? = some o → ∀ p ∈ bef o, p < k := fun k o ho => (hdi k o ho).1
      have := any_part hX.tt hX.cs hX.kd (P := P) (N := N) (ops := ops) (labs := labs) (lo := i) (hi := ops.size) (Nat.le_refl _) (fun k y _ _ hy j x _ hj hx => (hdi k y hy).2 j x hj hx) hbef (fun u hu hul => absurd hul (by omega)) (E := E) (r := r) (Q := Q) (f' := f') (σ' := σ') (M := 0)
        (fun a' w' ld hs hc hh => ⟨List.eq_nil_iff_forall_not_mem.2 fun k hk => by
          obtain ⟨g1, g2, _⟩ := (ready_iff k).1 hk
          have := (hc k g1).1 g2
          omega, hq f' σ' a' w' hh h4⟩) m (List.range' i m) listed (f := f) (σ := σ) (a := a) (w := w) (by simp) hsz List.pairwise_lt_range' (hlL _ hm.symm) (fun k hk => hm ▸ hrg k hk) (down hbef i listed hsz hL) h hidx
      rw [show ops.size - i = m + 0 by omega]
      exact this
    · have hml : m < l.length := lt_of_get? h3
      have ho : ops[i + m]? = some o := by
        rw [hl, List.getElem?_drop] at h3; simpa using h3
      obtain ⟨hbef, hcl⟩ := cutOk_spec h5
      have hpre : ∀ k y, k < i + m → ops[k]? = some y → (∀ p ∈ bef y, p < k) ∧ ∀ j x, j < k → ops[j]? = some x → (∃ m, j ∈ clo ops.toList m k) ∨ indep X.kd ops x y (labs.getD j lab0) (labs.getD k lab0) = true := by
        intro k y hk hy
        obtain ⟨g1, g2⟩ := okP_spec (kd := X.kd) (ops := ops) (labs := labs) (M := i + m) (ops.toList.take (i + m)) labs 0 [] h4 rfl rfl rfl (fun k hk => absurd hk (Nat.not_lt_zero k)) k y (Nat.zero_le _) hk (by simpa using hy)
        exact ⟨g1, fun j x hj hx => g2 j x hj (by simpa using hx)⟩
      have := any_part hX.tt hX.cs hX.kd (P := P) (N := N) (ops := ops) (labs := labs) (lo := i) (hi := i + m) (by omega) (fun k y _ hk hy j x _ hj hx => (hpre k y hk hy).2 j x hj hx) hbef (fun u hu hul j _ hj => hcl u hu hul j (by omega) (by omega)) (E := E) (r := r) (Q := Q) (f' := f') (σ' := σ') (M := ops.size - (i + m))
        (fun a' w' ld hs hc hh => ?_) m (List.range' i m) listed (f := f) (σ := σ) (a := a) (w := w) (by simp) hsz List.pairwise_lt_range' (hlL _ rfl) hrg (down hbef i listed hsz hL) h hidx
      · rw [show ops.size - i = m + (ops.size - (i + m)) by omega]
        exact this
      · have hsz1 : ops.size - (i + m) = (ops.size - (i + m + 1)) + 1 := by omega
        rw [hsz1]
        have hdn := down hbef (i + m) ld hs hc
        have hun : ∀ p, p < i + m → ld.getD p false = true := fun p hp => by
          rw [← getD_tf (by omega)]
          have h5 : ¬ ld.getD p true = false := fun e => by have := (hc p (by omega)).1 e; omega
          simpa using h5
        have hrdy : i + m ∈ Region.ready .any ops ld := (ready_iff _).2 ⟨by omega, (hc _ (by omega)).2 (Nat.le_refl _), fun o' ho' p hp => hun p (hbef _ _ ho' p hp)⟩
        refine ⟨fun hnil => (by rw [hnil] at hrdy; cases hrdy), fun k hk => ?_⟩
        obtain ⟨g1, g2, g3⟩ := (ready_iff k).1 hk
        have hkm : k = i + m := by
          have hge := (hc k g1).1 g2
          by_cases e : k = i + m
          · exact e
          · exfalso
            obtain ⟨mm, hmm⟩ := hcl k hge g1 (i + m) (Nat.le_refl _) (by omega)
            have h7 := clo_listed hs hbef hdn mm k g1 g3 _ hmm
            have h8 := (hc (i + m) (by omega)).2 (Nat.le_refl _)
            rw [getD_tf (by omega), h7] at h8
            cases h8
        subst hkm
        unfold wpOpIn
        rw [ho]
        refine stepK_ok hX.tt hX.cs hX.ks hY hh h6 fun a1 w1 f1 σ1 hh1 hk1 => ?_
        refine ih _ (i + m + 1) _ (by simp; omega) (by omega) (by rw [hl, List.drop_drop, Nat.add_assoc]) (by simp [← hlabs, hls, hlab]; omega) (by simpa using hs) (fun k hk => ?_) hh1 hk1
        have hset : (ld.setIfInBounds (i + m) true).getD k true = if k = i + m then true else ld.getD k true := by
          simp only [Array.getD_eq_getD_getElem?, Array.getElem?_setIfInBounds]
          split
          · rename_i e; subst e; simp; split <;> simp
          · rename_i e; rw [if_neg (Ne.symm e)]
        rw [hset]
        by_cases e : k = i + m
        · subst e; simp
        · rw [if_neg e, hc k hk]; omega

/-- A region that draws its order. -/
theorem drawN_ok {P : Program} {X : Cx} (hX : CxOk P X) {N : Nat} {ops : Array Oper} {E : Ent} {Y : YE} (hY : YOk P E.R E.φ E.σ E.W Y) {r : Option Nat} {Q : Exit → Act → World → Prop} {K : List AV → St → Option Prop} (hq : ∀ f' σ' a' w', Holds E f' σ' a' w' → tr (K f' σ') → Q .normal a' w') {f : List AV} {σ : St} {a : Act} {w : World} {id : Nat} (h : Holds E f σ a w)
    (hr : tr (drawN X Y N ops ops.toList 0 f σ [] fun f' σ' ls => match okDraw X.kd ops ls with | true => K f' σ' | false => none)) : (Code.region id ops true).wpIn (fen r) 0 P Q a w := by
  refine wpIn_region_any hX.mixed ?_
  obtain ⟨R, φ, hT, hl, hf, hmk⟩ := h
  have hk : Keep (fun _ _ => False) w { w with drawn := w.drawn + 1 } := Keep.drew _ w
  have hcalm : Calm R w { w with drawn := w.drawn + 1 } := hk.calm fun _ _ h => h.elim
  have ht' : Turn R φ σ w R φ σ { w with drawn := w.drawn + 1 } := ⟨fun _ h => h, fun _ h => .inl h, Ext.refl _, ⟨fun l B e => (hT.sim.blk l B e).kept hk (fun _ h => h) (fun _ _ h => h.elim) (fun _ _ _ h => h.elim) (Ext.refl _) (fun h => h), hT.sim.sep, hT.sim.ro, hT.sim.old.keep hk.size (hk.calm fun _ _ h => h.elim), hT.sim.dom⟩, fun _ _ h => .inl h, hk.mono fun _ _ h => h.elim⟩
  have hh : Holds E f σ a { w with drawn := w.drawn + 1 } := ⟨R, φ, hT.trans ht', hl, fun t u hu => ht'.vr hT.sim (hf t u hu), hmk.keep hT.sim ht'.keep⟩
  have := drawN_any hX hY (r := r) (Q := Q) hq ops.toList.length ops.toList 0 (Array.replicate ops.size false) (Nat.le_refl _) (Nat.zero_le _) rfl rfl (by simp) (fun k hk => by simp [hk]) hh hr
  exact this

/-! ### Records of loops -/
theorem Keep.putLoop {W : World} {b : Nat} {r : Loop} (h : W.heap[b]? = some (.loop r)) (st : LoopState) (pe : Option Code) : Keep (fun b' _ => b' = b) W (W.putObj b (.loop { r with state := st, pending := pe })) where
  os := rfl
  tape := rfl
  output := rfl
  size := by simp
  obj b' _ hn := World.putObj_heap_other fun e => hn 0 e
  cells b' c T fr hc := by
    have hne : b' ≠ b := fun e => by subst e; rw [h] at hc; cases hc
    exact ⟨c, by rw [World.putObj_heap_other hne]; exact hc, rfl, fun _ _ => rfl⟩
  loops b' r' hr := by
    by_cases e : b' = b
    · subst e
      rw [h] at hr
      obtain rfl : r = r' := by injection hr with hr; injection hr
      exact ⟨st, pe, World.putObj_heap_same (Array.getElem?_eq_some_iff.1 h).1⟩
    · exact ⟨r'.state, r'.pending, by rw [World.putObj_heap_other e]; exact hr⟩

/-- A record is turned. -/
theorem Turn.putLoop {R : Nat → Prop} {φ : Phi} {σ : St} {W : World} (hs : Sim R φ σ W) {l b : Nat} {B B' : Blk} (hl : σ[l]? = some B) (hB : B = .held ∨ ∃ e, B = .lrec e) (hb : φ l = some (some (b, 0))) {r : Loop} (hr : W.heap[b]? = some (.loop r)) {st : LoopState} {pe : Option Code}
    (hB' : BlkOk R φ (W.putObj b (.loop { r with state := st, pending := pe })) l B') (ho : ∀ b' k, own φ l B' b' k → b' = b) : Turn R φ σ W R φ (σ.set l B') (W.putObj b (.loop { r with state := st, pending := pe })) := by
  have hw : ∀ k, own φ l B b k := fun k => by rcases hB with rfl | ⟨e, rfl⟩ <;> exact hb
  have h : Rel (Owned φ σ) W R φ σ [] #[] W := localRel hs rfl fun t u h => by simp at h
  have := Rel.turn h (l := l) (src := l) (B' := B') (σ' := σ.set l B') (Keep.putLoop hr st pe) (Ext.refl _) (fun _ _ h => h) (fun b' k hg => ⟨B, hl, by subst hg; exact hw k⟩) hB' (fun b' k hg => .inl ⟨B, hl, by rw [ho b' k hg]; exact hw k⟩)
    (fun m B0 hm => by
      by_cases hne : m = l
      · subst hne; exact .inl ⟨rfl, set_get_self hm⟩
      · exact .inr (.inr ⟨hne, hne, set_get hm hne⟩)) (fun m hm => hs.dom m (by simpa using hm))
  exact turn_of_rel (fun _ h => h) (fun _ h => .inl h) (Ext.refl _) this

/-- An object that hangs on no root. -/
theorem Turn.alloc {R : Nat → Prop} {φ : Phi} {σ : St} {W : World} (hs : Sim R φ σ W) (o : Obj) : Turn R φ σ W R φ σ (W.alloc o) := by
  have hk := Keep.alloc (fun _ _ => False) W o
  exact ⟨fun _ h => h, fun _ h => .inl h, Ext.refl _, ⟨fun l B e => (hs.blk l B e).kept hk (fun _ h => h) (fun _ _ h => h.elim) (fun _ _ _ h => h.elim) (Ext.refl _) (fun h => h), hs.sep, hs.ro, hs.old.keep hk.size (hk.calm fun _ _ h => h.elim), hs.dom⟩, fun _ _ h => .inl h, hk.mono fun _ _ h => h.elim⟩
theorem Turn.newObj {R : Nat → Prop} {φ : Phi} {σ : St} {W : World} (hs : Sim R φ σ W) (o : Obj) {B : Blk} (hB : BlkOk R (upd φ σ.length (some (W.heap.size, 0))) (W.alloc o) σ.length B) :
    Turn R φ σ W R (upd φ σ.length (some (W.heap.size, 0))) (σ ++ [B]) (W.alloc o) := by
  have h : Rel (Owned φ σ) W R φ σ [] #[] W := localRel hs rfl fun t u h => by simp at h
  exact turn_of_rel (fun _ h => h) (fun _ h => .inl h) (upd_ext _ (hs.dom _ (Nat.le_refl _))) (h.newObj o hB)

theorem setMany_len : ∀ (ps : List Tmp) (us : List AV) (f : List AV), (setMany f ps us).length = f.length
  | p :: ps, u :: us, f => by simp only [setMany]; rw [setMany_len]; simp
  | [], _, f => by simp [setMany]
  | _ :: _, [], f => by simp [setMany]
theorem setMany_rel {R : Nat → Prop} {φ : Phi} {W : World} : ∀ (ps : List Tmp) (us : List AV) (vs : List Value) (f : List AV) (tmps : Array Value), VRs R φ W us vs → us.length = ps.length → f.length = tmps.size → (∀ (t : Nat) (u : AV), f[t]? = some u → VR R φ W u (tmps.getD t undef)) →
    let T := (ps.zip vs).foldl (fun tmps (p : Nat × Value) => tmps.setIfInBounds p.1 p.2) tmps
    (setMany f ps us).length = T.size ∧ ∀ (t : Nat) (u : AV), (setMany f ps us)[t]? = some u → VR R φ W u (T.getD t undef) := by
  intro ps
  induction ps with
  | nil =>
    intro us vs f tmps hv hn hl hf
    cases us with
    | nil => exact ⟨hl, hf⟩
    | cons => simp at hn
  | cons p ps ih =>
    intro us vs f tmps hv hn hl hf
    cases us with
    | nil => simp at hn
    | cons u us =>
      cases vs with
      | nil => have := hv.1; simp at this
      | cons v vs =>
        simp only [List.zip_cons_cons, List.foldl_cons, setMany]
        refine ih us vs (f.set p u) (tmps.setIfInBounds p v) ⟨by have := hv.1; simpa using this, fun k w x hw hx => hv.2 (k + 1) w x (by simpa using hw) (by simpa using hx)⟩ (by simpa using hn) (by simpa using hl) fun t w hw => ?_
        have hlt : t < f.length := by have := lt_of_get? hw; simpa using this
        by_cases e : t = p
        · subst e
          rw [List.getElem?_set_self hlt] at hw
          obtain rfl := Option.some.inj hw
          have : (tmps.setIfInBounds t v).getD t undef = v := by simp [Array.getD, hl ▸ hlt]
          rw [this]
          exact hv.2 0 u v rfl rfl
        · rw [List.getElem?_set_ne (Ne.symm e)] at hw
          have : (tmps.setIfInBounds p v).getD t undef = tmps.getD t undef := by
            simp only [Array.getD_eq_getD_getElem?, Array.getElem?_setIfInBounds_ne (Ne.symm e)]
          rw [this]; exact hf t w hw

/-- In a round: there is the record. -/
def RoundAt (r : Option Nat) (W : World) : Prop := ∀ l, r = some l → ∃ r0, W.heap[l]? = some (.loop r0)

theorem loopP_ok {P : Program} {body : Code} {nb : Nat} {round : List AV → St → (Ex → List AV → St → Prop) → Option Prop} {E : Ent} (hE : E.σ.length ≤ nb) (hdom : ∀ l, E.σ.length ≤ l → E.φ l = none) {r : Option Nat}
    (hround : ∀ {f : List AV} {σ : St} {A : Ex → List AV → St → Prop} {a : Act} {w : World} {Q : Exit → Act → World → Prop}, Holds E f σ a w → tr (round f σ A) → (∀ e f' σ' a' w', Holds E f' σ' a' w' → A e f' σ' → Q e.to a' w') → body.wpIn (fen r) 0 P Q a w)
    {f : List AV} {σ : St} {K : Ex → List AV → St → Prop} (hl : LoopP nb round f σ K) {a : Act} {w : World} {Q : Exit → Act → World → Prop} (hh : Holds E f σ a w) (hq : ∀ e f' σ' a' w', Holds E f' σ' a' w' → K e f' σ' → Q e.to a' w') : (Code.loop body).wpIn (fen r) 0 P Q a w := by
  obtain ⟨β, inv, hf, hs, μ, x0, hi, hc, step⟩ := hl
  have main : ∀ n x a w, μ x < n → inv x → Holds E (hf x) (hs x) a w → Code.roundsIn (fen r) 0 P body Q n a w := by
    intro n
    induction n with
    | zero => intro x a w h; omega
    | succ n ih =>
      intro x a w hn hi hh
      have h := step x hi
      rw [normF_eq, normL_eq] at h
      rw [roundsIn_succ]
      refine hround hh h fun e f' σ' a' w' h' hk => ?_
      cases e with
      | normal =>
        obtain ⟨y, hy, hm, hc⟩ := hk
        exact ih y a' w' (by omega) hy (hc.holds hE hdom h')
      | exit id =>
        rcases hk with hk | ⟨f0, σ0, hc, hk⟩
        · exact hq (.exit id) f' σ' a' w' h' hk
        · exact hq (.exit id) f0 σ0 a' w' (hc.holds hE hdom h') hk
      | ret =>
        rcases hk with hk | ⟨f0, σ0, hc, hk⟩
        · exact hq .ret f' σ' a' w' h' hk
        · exact hq .ret f0 σ0 a' w' (hc.holds hE hdom h') hk
  exact wpIn_loop_rounds (μ x0 + 1) (main _ x0 a w (by omega) hi (hc.holds hE hdom hh))
end
end Go.Proofs.Ythdeehkmlaejfaa.E
/- The engine, part 21: code's run, and functions. -/
namespace Go.Proofs.Ythdeehkmlaejfaa.E
open Go
set_option linter.unusedSimpArgs false
set_option linter.unusedVariables false
noncomputable section

theorem Turn.held {R : Nat → Prop} {φ : Phi} {σ : St} {W : World} (hs : Sim R φ σ W) {l : Nat} {e : Ex} (hl : σ[l]? = some (.lrec e)) : ∃ b r, φ l = some (some (b, 0)) ∧ W.heap[b]? = some (.loop r) ∧ r.state = e.st ∧ r.pending = e.jump ∧
    ∀ st pe B', (B' = .held ∨ B' = .gone ∨ ∃ e', B' = .lrec e' ∧ st = e'.st ∧ pe = e'.jump) → Turn R φ σ W R φ (σ.set l B') (W.putObj b (.loop { r with state := st, pending := pe })) := by
  obtain ⟨b, r, h1, h2, h3, h4⟩ := hs.blk l _ hl
  have hlt := (Array.getElem?_eq_some_iff.1 h2).1
  refine ⟨b, r, h1, h2, h3, h4, fun st pe B' hB' => Turn.putLoop hs hl (.inr ⟨e, rfl⟩) h1 h2 ?_ ?_⟩
  · rcases hB' with rfl | rfl | ⟨e', rfl, rfl, rfl⟩
    · exact ⟨b, _, h1, World.putObj_heap_same hlt⟩
    · trivial
    · exact ⟨b, _, h1, World.putObj_heap_same hlt, rfl, rfl⟩
  · intro b' k hw
    rcases hB' with rfl | rfl | ⟨e', rfl, rfl, rfl⟩
    · have hw : φ l = some (some (b', 0)) := hw; rw [h1] at hw; exact (Prod.mk.inj (Option.some.inj (Option.some.inj hw))).1.symm
    · exact hw.elim
    · have hw : φ l = some (some (b', 0)) := hw; rw [h1] at hw; exact (Prod.mk.inj (Option.some.inj (Option.some.inj hw))).1.symm

theorem Turn.back {R : Nat → Prop} {φ : Phi} {σ : St} {W : World} (hs : Sim R φ σ W) {l : Nat} (hl : σ[l]? = some .held) : ∃ b r, φ l = some (some (b, 0)) ∧ W.heap[b]? = some (.loop r) ∧
    ∀ e : Ex, Turn R φ σ W R φ (σ.set l (.lrec e)) (W.putObj b (.loop { r with state := e.st, pending := e.jump })) := by
  obtain ⟨b, r, h1, h2⟩ := hs.blk l _ hl
  have hlt := (Array.getElem?_eq_some_iff.1 h2).1
  refine ⟨b, r, h1, h2, fun e => Turn.putLoop hs hl (.inl rfl) h1 h2 ⟨b, _, h1, World.putObj_heap_same hlt, rfl, rfl⟩ fun b' k hw => ?_⟩
  have hw : φ l = some (some (b', 0)) := hw; rw [h1] at hw; exact (Prod.mk.inj (Option.some.inj (Option.some.inj hw))).1.symm

/-- A frame that is known, on by a piece. -/
theorem Holds.by {E : Ent} {R R' : Nat → Prop} {φ φ' : Phi} {σ σ' : St} {f : List AV} {a : Act} {w w' : World} (hT : Turn E.R E.φ E.σ E.W R φ σ w) (hl : f.length = a.tmps.size) (hf : ∀ (t : Nat) (u : AV), f[t]? = some u → VR R φ w u (a.tmps.getD t undef)) (hm : Marks E.W a.defers w) (h : Turn R φ σ w R' φ' σ' w') : Holds E f σ' a w' :=
  Holds.step hT hl hf hm h (.dead undef : VR R' φ' w' .dead undef) none

/-- What the rounds of a loop do. -/
def roundY (X : Cx) (Y : YE) (l : Nat) (f : List AV) (ps : Array Tmp) (asg body : List AV → St → Nat → Cont → Option Prop) : YE := fun k => match Nat.beq k l with
  | true => some fun args σ2 K1 => match σ2[l]? with
    | some (.lrec .normal) => match Nat.beq args.length ps.size with
      | true => normL (setMany f ps.toList args) fun f1 => asg f1 σ2 σ2.length fun e f2 σ3 => match e with
        | .normal => match σ3[l]? with
          | some (.lrec .normal) => normL (σ3.set l .held) fun σ3 => body f2 σ3 σ2.length fun e _ σ4 => match σ4[l]? with
            | some .held => normL (σ4.set l (.lrec e)) fun σ4 => K1 (.v (.bool (isN e))) σ4
            | _ => none
          | _ => none
        | _ => none
      | false => none
    | _ => none
  | false => Y k

/-- What is shown of code. -/
def CodeOk (P : Program) (X : Cx) (c : Code) : Prop :=
  ∀ {E : Ent} {Y : YE} {r : Option Nat} {nb : Nat}, Sim E.R E.φ E.σ E.W → YOk P E.R E.φ E.σ E.W Y → RoundAt r E.W → E.σ.length ≤ nb → ∀ {f : List AV} {σ : St} {K : Cont} {a : Act} {w : World} {Q : Exit → Act → World → Prop}, Holds E f σ a w → tr (runC X Y nb c f σ K) →
    (∀ e f' σ' a' w', Holds E f' σ' a' w' → tr (K e f' σ') → Q e.to a' w') → c.wpIn (fen r) 0 P Q a w

/-- The rounds do what is told. -/
theorem rounds_ok {P : Program} {X : Cx} {asg body : Code} (ha : CodeOk P X asg) (hb : CodeOk P X body) {R : Nat → Prop} {φ : Phi} {σ : St} {W : World} {Y : YE} {l b : Nat} (hY : YOk P R φ σ W Y) (hs : Sim R φ σ W) (hl : φ l = some (some (b, 0)))
    {rec : Loop} (hrec : W.heap[b]? = some (.loop rec)) (hasg : rec.assign = asg) (hbody : rec.body = body) {f : List AV} {ps : Array Tmp} (hps : rec.params = ps) (hlen : f.length = rec.tmps.size) (hf : ∀ (t : Nat) (u : AV), f[t]? = some u → VR R φ W u (rec.tmps.getD t undef)) :
    YOk P R φ σ W (roundY X Y l f ps (fun f σ nb K => runC X Y nb asg f σ K) (fun f σ nb K => runC X Y nb body f σ K)) := by
  intro k T hT
  unfold roundY at hT
  cases hk : Nat.beq k l with
  | false => simp only [hk] at hT; exact hY k T hT
  | true =>
    obtain rfl := Nat.eq_of_beq_eq_true hk
    simp only [hk, Option.some.injEq] at hT
    subst hT
    refine ⟨b, hl, fun {R1 φ1 σ1 W1} hT1 {args vals} hv {K} hK => ?_⟩
    dsimp only at hK
    split at hK
    case h_2 => exact hK.elim
    rename_i hl1
    split at hK
    case h_2 => exact hK.elim
    rename_i hn
    have hn := Nat.eq_of_beq_eq_true hn
    rw [normL_eq] at hK
    obtain ⟨b', r1, p1, p2, p3, p4, p5⟩ := Turn.held hT1.sim hl1
    have hb1 : φ1 k = some (some (b, 0)) := hT1.ext _ _ hl
    rw [hb1] at p1
    obtain ⟨rfl, _⟩ := Prod.mk.inj (Option.some.inj (Option.some.inj p1))
    obtain ⟨st, pe, q1⟩ := hT1.keep.loops b rec hrec
    rw [p2] at q1
    obtain rfl : r1 = { rec with state := st, pending := pe } := by injection q1 with q1; injection q1
    have hvsz : vals.toArray.size = rec.params.size := by rw [hps, ← hn, hv.1]; simp
    have hy := run_yield (P := P) p2 hvsz
    refine ⟨rec.fn, _, rec.assign, rec.body, hy, roundIn_of_wpIn trivial ?_⟩
    rw [hasg, hbody]
    have fr := setMany_rel ps.toList args vals f rec.tmps hv (by simpa using hn) hlen fun t u hu => hT1.vr hs (hf t u hu)
    have htm : ∀ z : Array Value, (((ps.zip vals.toArray).foldl (fun tmps x => match x with | (t, a) => tmps.setIfInBounds t a) z) : Array Value) = (ps.toList.zip vals).foldl (fun tmps (p : Nat × Value) => tmps.setIfInBounds p.1 p.2) z := fun z => by
      rw [← Array.foldl_toList, Array.toList_zip]
    have hst : st = .ready := p3
    have hpe : pe = none := p4
    subst hst hpe
    have E1 : Ent := ⟨R1, φ1, σ1, W1⟩
    have hR1 : RoundAt (some b) W1 := fun l hl => by obtain rfl := Option.some.inj hl; exact ⟨_, p2⟩
    have hH : Holds ⟨R1, φ1, σ1, W1⟩ (setMany f ps.toList args) σ1 { tmps := (rec.params.zip vals.toArray).foldl (fun tmps x => match x with | (t, a) => tmps.setIfInBounds t a) rec.tmps, defers := [] } W1 :=
      ⟨R1, φ1, Turn.refl hT1.sim, by rw [hps, htm]; exact fr.1, fun t u hu => by rw [hps, htm]; exact fr.2 t u hu, Marks.nil _ _⟩
    refine ha (E := ⟨R1, φ1, σ1, W1⟩) (r := some b) hT1.sim (hY.later hT1) hR1 (Nat.le_refl _) hH hK fun e f2 σ3 a1 w1 h1 hk1 => ?_
    cases e with
    | exit id => exact hk1.elim
    | ret => exact hk1.elim
    | normal =>
      simp only at hk1
      split at hk1
      case h_2 => exact hk1.elim
      rename_i hl3
      rw [normL_eq] at hk1
      obtain ⟨R3, φ3, hT3, len3, fr3, mk3⟩ := h1
      obtain ⟨b'', r3, s1, s2, s3, s4, s5⟩ := Turn.held hT3.sim hl3
      have hb3 : φ3 k = some (some (b, 0)) := hT3.ext _ _ hb1
      rw [hb3] at s1
      obtain ⟨rfl, _⟩ := Prod.mk.inj (Option.some.inj (Option.some.inj s1))
      obtain ⟨st, pe, q1⟩ := hT3.keep.loops b _ p2
      rw [s2] at q1
      obtain rfl : r3 = { rec with state := st, pending := pe } := by injection q1 with q1; injection q1
      have hst : st = .ready := s3
      have hpe : pe = none := s4
      subst hst hpe
      refine ⟨_, run_beginRound s2 rfl, ?_⟩
      have hT4 := s5 .busy none .held (.inl rfl)
      refine hb (E := ⟨R1, φ1, σ1, W1⟩) (r := some b) hT1.sim (hY.later hT1) hR1 (Nat.le_refl _) (Holds.by hT3 len3 fr3 mk3 hT4) hk1 fun e f5 σ5 a5 w5 h5 hk5 => ?_
      split at hk5
      case h_2 => exact hk5.elim
      rename_i hl5
      rw [normL_eq] at hk5
      obtain ⟨R5, φ5, hT5, len5, fr5, mk5⟩ := h5
      obtain ⟨b5, r5, t1, t2, t3⟩ := Turn.back hT5.sim hl5
      have hb5 : φ5 k = some (some (b, 0)) := hT5.ext _ _ hb1
      rw [hb5] at t1
      obtain ⟨rfl, _⟩ := Prod.mk.inj (Option.some.inj (Option.some.inj t1))
      have fin := hT5.trans (t3 e)
      cases e with
      | normal => exact ⟨_, _, run_endRound none t2, .v (.bool true), _, _, _, _, rfl, fin, .imm (.v _), hk5⟩
      | exit id => exact ⟨_, _, run_endRound (some (.exit id)) t2, .v (.bool false), _, _, _, _, rfl, fin, .imm (.v _), hk5⟩
      | ret => exact ⟨_, _, run_endRound (some .ret) t2, .v (.bool false), _, _, _, _, rfl, fin, .imm (.v _), hk5⟩

theorem Marks.more {W0 w w' : World} {ds : List Deferred} (h : Marks W0 ds w) (hle : W0.heap.size ≤ w.heap.size) (hk : ∀ (D : Nat) (x : Obj), w.heap[D]? = some (.deferred (some [])) → w'.heap[D]? = some (.deferred (some []))) (hn : w'.heap[w.heap.size]? = some (.deferred (some []))) :
    Marks W0 ({ target := .collected w.heap.size, args := #[] } :: ds) w' := by
  obtain ⟨Ds, e, hnd, hd⟩ := h
  refine ⟨w.heap.size :: Ds, by rw [e]; rfl, List.nodup_cons.2 ⟨fun hm => ?_, hnd⟩, fun D hD => ?_⟩
  · have := (Array.getElem?_eq_some_iff.1 (hd _ hm).2).1
    omega
  · rcases List.mem_cons.1 hD with rfl | hD
    · exact ⟨hle, hn⟩
    · exact ⟨(hd D hD).1, hk D (.deferred none) (hd D hD).2⟩

/-- A scope in which nothing is jumped to. -/
theorem stepR_scope' {P : Program} {b : Frame} {a : Act} {w : World} {k : List Item} {cs : List Frame} {c : Code} : step P (lone (b.atR a (.code (.scope c) :: k)) cs w) = .next (lone (b.atR a (.code c :: .inScope c :: k)) cs w) :=
  step_lone_go (by simp [stepG, stepG.exec, Frame.atR])
theorem stepR_inScope' {P : Program} {b : Frame} {a : Act} {w : World} {k : List Item} {cs : List Frame} {c : Code} : step P (lone (b.atR a (.inScope c :: k)) cs w) = .next (lone (b.atR a k) cs w) :=
  step_lone_go (by simp [stepG, stepG.exec, Frame.atR])
theorem wpIn_scope' {F : Fence} {n : Nat} {P : Program} {Q : Exit → Act → World → Prop} {a : Act} {w : World} {c : Code} (h : c.wpIn F n P (fun e a w => (∀ l, e ≠ .goto l) ∧ Q e a w) a w) : (Code.scope c).wpIn F n P Q a w := by
  intro b k cs hro hb hr
  have h0 : (lone (b.atR a (.code (.scope c) :: k)) cs w).fenced P F := fenced_calm hb hr rfl
  obtain ⟨e, a₁, w₁, hq, harr⟩ := h b (.inScope c :: k) cs hro hb hr
  cases e with
  | normal => exact ⟨.normal, a₁, w₁, hq.2, .head h0 stepR_scope' (StepsIn.trans harr (.one (fenced_calm hb hr rfl) stepR_inScope'))⟩
  | exit id =>
    have hx : exitTo id (.inScope c :: k) = exitTo id k := by simp [exitTo]
    exact ⟨.exit id, a₁, w₁, hq.2, fun k' hk => .head h0 stepR_scope' (harr.1 k' (by rw [hx]; exact hk)),
      fun hr' hk => let ⟨k₁, h1, h2⟩ := harr.2 hr' (by rw [hx]; exact hk); ⟨k₁, h1, .head h0 stepR_scope' h2⟩⟩
  | goto l => exact absurd rfl (hq.1 l)
  | ret => exact ⟨_, a₁, w₁, hq.2, .of_steps (.one h0 stepR_scope') harr⟩
  | panic ch => exact ⟨_, a₁, w₁, hq.2, .of_steps (.one h0 stepR_scope') harr⟩
  | outgrown => exact ⟨_, a₁, w₁, hq.2, .of_steps (.one h0 stepR_scope') harr⟩

theorem runC_ok {P : Program} {X : Cx} (hX : CxOk P X) : ∀ c : Code, CodeOk P X c := by
  intro c
  induction c with
  | skip => intro E Y r nb hs hY hR hE f σ K a w Q h hr hq; exact wpIn_skip (hq .normal f σ a w h hr)
  | region id ops draw =>
    intro E Y r nb hs hY hR hE f σ K a w Q h hr hq
    cases draw with
    | false =>
      simp only [runC] at hr
      exact wpIn_region_list (opsK_ok hX.tt hX.cs hX.ks hY (fun a' w' f' σ' h' hk => hq .normal f' σ' a' w' h' hk) ops.toList h hr)
    | true =>
      simp only [runC, normL_eq] at hr
      exact drawN_ok hX hY (fun f' σ' a' w' h' hk => hq .normal f' σ' a' w' h' hk) (h.frees _) hr
  | seq x y ihx ihy =>
    intro E Y r nb hs hY hR hE f σ K a w Q h hr hq
    simp only [runC] at hr
    split at hr
    · obtain ⟨β, inv, hf, hst, h1, h2⟩ := hr
      refine wpIn_seq (ihx hs hY hR hE h h1 fun e f' σ' a' w' h' hk => ?_)
      cases e with
      | normal =>
        obtain ⟨y, hy, hc⟩ := hk
        have := h2 y hy
        simp only [normF_eq, normL_eq] at this
        exact ihy hs hY hR hE (hc.holds hE hs.dom h') this hq
      | exit id => exact hq (.exit id) f' σ' a' w' h' hk
      | ret => exact hq .ret f' σ' a' w' h' hk
    · refine wpIn_seq (ihx hs hY hR hE h hr fun e f' σ' a' w' h' hk => ?_)
      cases e with
      | normal => exact ihy hs hY hR hE h' hk hq
      | exit id => exact hq (.exit id) f' σ' a' w' h' hk
      | ret => exact hq .ret f' σ' a' w' h' hk
  | cond k x y ihx ihy =>
    intro E Y r nb hs hY hR hE f σ K a w Q h hr hq
    simp only [runC] at hr
    split at hr
    case h_2 => exact hr.elim
    rename_i b hb
    have h0 := h
    obtain ⟨R, φ, hT, hl, hf, hm⟩ := h
    have hv := ev_frame hT.sim hl hf k
    rw [hb] at hv
    have hv := hv.val
    cases b with
    | true => exact wpIn_cond_true hv (ihx hs hY hR hE h0 hr hq)
    | false => exact wpIn_cond_false hv (ihy hs hY hR hE h0 hr hq)
  | block id x ihx =>
    intro E Y r nb hs hY hR hE f σ K a w Q h hr hq
    simp only [runC] at hr
    refine wpIn_block (ihx hs hY hR hE h hr fun e f' σ' a' w' h' hk => ?_)
    cases e with
    | normal => exact hq .normal f' σ' a' w' h' hk
    | ret => exact hq .ret f' σ' a' w' h' hk
    | exit j =>
      simp only at hk
      show if j = id then _ else _
      cases hj : Nat.beq j id with
      | true =>
        obtain rfl := Nat.eq_of_beq_eq_true hj
        simp only [hj] at hk
        rw [if_pos rfl]
        exact hq .normal f' σ' a' w' h' hk
      | false =>
        simp only [hj] at hk
        rw [if_neg (Nat.ne_of_beq_eq_false hj)]
        exact hq (.exit j) f' σ' a' w' h' hk
  | loop body ih =>
    intro E Y r nb hs hY hR hE f σ K a w Q h hr hq
    simp only [runC] at hr
    refine loopP_ok hE hs.dom (round := fun f σ A => runC X Y nb body f σ fun e f σ => some (A e f σ)) (K := fun e f' σ' => tr (normF f' fun f' => normL σ' fun σ' => K e f' σ')) (fun {f σ A a w Q} hh hk hq => ?_) hr h fun e f' σ' a' w' h' hk => ?_
    · exact ih hs hY hR hE hh hk fun e f' σ' a' w' h' hk => hq e f' σ' a' w' h' hk
    · rw [normF_eq, normL_eq] at hk
      exact hq e f' σ' a' w' h' hk
  | exit id => intro E Y r nb hs hY hR hE f σ K a w Q h hr hq; exact wpIn_exit (hq (.exit id) f σ a w h hr)
  | ret => intro E Y r nb hs hY hR hE f σ K a w Q h hr hq; exact wpIn_ret (hq .ret f σ a w h hr)
  | label id => intro E Y r nb hs hY hR hE f σ K a w Q h hr hq; exact wpIn_label (hq .normal f σ a w h hr)
  | scope x ihx =>
    intro E Y r nb hs hY hR hE f σ K a w Q h hr hq
    simp only [runC] at hr
    exact wpIn_scope' (ihx hs hY hR hE h hr fun e f' σ' a' w' h' hk => ⟨fun l => by (cases e <;> exact (fun h => by cases h)), hq e f' σ' a' w' h' hk⟩)
  | rangeFunc g ps asg body iha ihb =>
    intro E Y r nb hs hY hR hE f σ K a w Q h hr hq
    simp only [runC] at hr
    split at hr
    case h_2 => exact hr.elim
    rename_i gf us ls hg
    split at hr
    case h_2 => exact hr.elim
    rename_i T hT
    rw [normL_eq, normL_eq] at hr
    obtain ⟨hcal, hok⟩ := run_ok hX.ks hT
    have h0 := h
    obtain ⟨R, φ, hTu, hl, hf, hm⟩ := h
    have hv := ev_frame hTu.sim hl hf g
    rw [hg] at hv
    obtain ⟨uv, kv, hval, hus, hls⟩ : ∃ uv kv : List Value, a.eval g = .func (.func gf) uv.toArray kv.toArray ∧ VRs R φ w us uv ∧ VRs R φ w ls kv := by
      generalize a.eval g = v at hv
      cases hv with
      | imm hi => cases hi
      | f h1 h2 h3 h4 => exact ⟨_, _, rfl, ⟨h1, h2⟩, ⟨h3, h4⟩⟩
    -- the rest, where the record is laid
    have key : ∀ (b : Nat) (rec : Loop) (w0 : World) (mark : List Deferred), b = w0.heap.size → rec.assign = asg → rec.body = body → rec.params = ps → rec.tmps = a.tmps → rec.state = .ready → rec.pending = none → Turn R φ σ w R φ σ w0 →
        (∀ w', (∀ (D : Nat), (w0.alloc (.loop rec)).heap[D]? = some (.deferred (some [])) → w'.heap[D]? = some (.deferred (some []))) → Marks E.W (mark ++ a.defers) w') →
        Calls P gf (uv ++ [Value.func (.yield b) #[] #[]] ++ kv).toArray (w0.alloc (.loop rec)) (rangePost (fen r) 0 P b Q { a with defers := mark ++ a.defers }) := by
      intro b rec w0 mark hb hrasg hrbody hrps hrt hrst hrpe hT0 hmk
      subst hb
      have hnew : BlkOk R (upd φ σ.length (some (w0.heap.size, 0))) (w0.alloc (.loop rec)) σ.length (.lrec .normal) := ⟨w0.heap.size, rec, upd_same _ _ _, World.alloc_heap_new _ _, hrst, hrpe⟩
      have hT1 := hT0.trans (Turn.newObj hT0.sim (.loop rec) hnew)
      have hY1 := hY.later (hTu.trans hT1)
      have hYr := rounds_ok (X := X) iha ihb hY1 hT1.sim (l := σ.length) (b := w0.heap.size) (upd_same _ _ _) (World.alloc_heap_new _ _) hrasg hrbody (f := f) hrps (by rw [hrt]; exact hl) fun t u hu => by rw [hrt]; exact hT1.vr hTu.sim (hf t u hu)
      have hyv : VR R (upd φ σ.length (some (w0.heap.size, 0))) (w0.alloc (.loop rec)) (.y σ.length) (.func (.yield w0.heap.size) #[] #[]) := .y (upd_same _ _ _)
      have hvs : VRs R (upd φ σ.length (some (w0.heap.size, 0))) (w0.alloc (.loop rec)) (us ++ [.y σ.length] ++ ls) (uv ++ [Value.func (.yield w0.heap.size) #[] #[]] ++ kv) :=
        VRs.append (VRs.append ⟨hus.1, fun k u x hu hx => hT1.vr hTu.sim (hus.2 k u x hu hx)⟩ ⟨rfl, fun k u x hu hx => by
          cases k with
          | zero => simp at hu hx; subst hu hx; exact hyv
          | succ k => simp at hu⟩) ⟨hls.1, fun k u x hu hx => hT1.vr hTu.sim (hls.2 k u x hu hx)⟩
      refine (hok hr hT1.sim hYr hvs).mono ?_
      rintro e w2 ⟨u, σ', v, R', φ', rfl, hT2, hv2, hk2⟩
      have hT12 := hT1.trans hT2
      have hb2 : φ' σ.length = some (some (w0.heap.size, 0)) := hT2.ext _ _ (upd_same _ _ _)
      have marks : ∀ r2 : Loop, w2.heap[w0.heap.size]? = some (.loop r2) → ∀ o, Marks E.W (mark ++ a.defers) (w2.putObj w0.heap.size o) := fun r2 h2 o => hmk _ fun D hD => by
        have hD2 : w2.heap[D]? = some (.deferred (some [])) := by
          rw [hT2.keep.obj D (Array.getElem?_eq_some_iff.1 hD).1 fun k hw => ?_]
          · exact hD
          · rcases hT1.sim.owned hw with ⟨c, T, fr, h2⟩ | ⟨r, h2⟩ | ⟨es, c, h2⟩ | ⟨m, s, seen, st, h2⟩ <;> rw [hD] at h2 <;> cases h2
        rw [World.putObj_heap_other fun e => by rw [e, h2] at hD2; cases hD2]
        exact hD2
      have go : ∀ e : Ex, σ'[σ.length]? = some (.lrec e) → tr (K e f (σ'.set σ.length .gone)) → rangePost (fen r) 0 P w0.heap.size Q { a with defers := mark ++ a.defers } (.returned v) w2 := by
        intro e he hk
        obtain ⟨b', r2, p1, p2, p3, p4, p5⟩ := Turn.held hT2.sim he
        rw [hb2] at p1
        obtain ⟨rfl, _⟩ := Prod.mk.inj (Option.some.inj (Option.some.inj p1))
        have hT3 := p5 .exhausted r2.pending .gone (.inr (.inl rfl))
        have hT := hT12.trans hT3
        have hH : Holds E f (σ'.set σ.length .gone) { a with defers := mark ++ a.defers } (w2.putObj w0.heap.size (.loop { r2 with state := .exhausted })) :=
          ⟨_, _, hTu.trans hT, hl, fun t u hu => hT.vr hTu.sim (hf t u hu), marks r2 p2 _⟩
        refine ⟨r2.pending, _, run_endLoop p2 (by rw [p3]; cases e <;> simp [Ex.st]), ?_⟩
        rw [p4] at hH ⊢
        cases e with
        | normal => exact hq .normal f _ _ _ hH hk
        | exit id => exact wpIn_exit (hq (.exit id) f _ _ _ hH hk)
        | ret => exact wpIn_ret (hq .ret f _ _ _ hH hk)
      split at hk2
      · rename_i he; rw [normL_eq] at hk2; exact go .normal he hk2
      · rename_i e hne he; rw [normL_eq] at hk2; exact go e he hk2
      · exact hk2.elim
    refine wpIn_rangeFunc fun fn _ => ?_
    have res : ∀ (b : Nat) (W1 : World), ∃ d, (resolve a.eval (rangeCall g b) 0).run P W1 = .ok d W1 ∧ (invoke d.target d.args).run P W1 = .ok (.enter gf (uv ++ [Value.func (.yield b) #[] #[]] ++ kv).toArray) W1 := by
      intro b W1
      obtain ⟨fn', hfn', hnm', hbody'⟩ := hcal
      refine ⟨_, by simp only [resolve, hval, Deferred.ofValue, Sem.run_bind, Sem.run_pure, Result.andThen_ok]; rfl, ?_⟩
      simp only [invoke]
      unfold callFunc
      simp only [Sem.run_bind, run_program, Result.andThen_ok, hfn', hnm', hbody', Bool.false_eq_true, if_false, Sem.run_pure]
      simp [Act.eval]
    cases r with
    | none =>
      obtain ⟨d, e1, e2⟩ := res (w.heap.size + 1) ((w.alloc (.deferred (some []))).alloc (.loop { state := .ready, pending := none, fn, tmps := a.tmps, params := ps, assign := asg, body, defers := w.heap.size }))
      refine ⟨w.heap.size + 1, [{ target := .collected w.heap.size, args := #[] }], _, d, _, gf, _, _, run_enterLoop_outer _ _ _ _ _, e1, fun f _ => fen_fn none f, e2, fun h => fen_depth none h, callsIn_fen.2 ?_⟩
      refine key (w.heap.size + 1) _ (w.alloc (.deferred (some []))) [{ target := .collected w.heap.size, args := #[] }] (by simp) rfl rfl rfl rfl rfl rfl (Turn.alloc hTu.sim _) fun w' hw' => ?_
      refine hm.more hTu.keep.size (fun D x hD => hw' D ?_) (hw' _ ?_)
      · have h1 := (Array.getElem?_eq_some_iff.1 hD).1
        rw [heap_alloc _ _ _ (by simp; omega), heap_alloc _ _ _ h1]; exact hD
      · rw [heap_alloc _ _ _ (by simp)]; exact heap_new _ _
    | some l0 =>
      obtain ⟨r0, hr0⟩ := hR l0 rfl
      obtain ⟨st, pe, hr0⟩ := hTu.keep.loops l0 r0 hr0
      obtain ⟨d, e1, e2⟩ := res w.heap.size (w.alloc (.loop { state := .ready, pending := none, fn, tmps := a.tmps, params := ps, assign := asg, body, defers := r0.defers }))
      refine ⟨w.heap.size, [], _, d, _, gf, _, _, run_enterLoop_inner hr0 _ _ _ _ _, e1, fun f _ => fen_fn (some l0) f, e2, fun h => fen_depth (some l0) h, callsIn_fen.2 ?_⟩
      refine key w.heap.size _ w [] rfl rfl rfl rfl rfl rfl rfl (Turn.refl hTu.sim) fun w' hw' => ?_
      obtain ⟨Ds, e, hnd, hd⟩ := hm
      refine ⟨Ds, e, hnd, fun D hD => ⟨(hd D hD).1, hw' D ?_⟩⟩
      rw [heap_alloc _ _ _ (Array.getElem?_eq_some_iff.1 (hd D hD).2).1]; exact (hd D hD).2
  | _ => intro E Y r nb hs hY hR hE f σ K a w Q h hr hq; exact (show False from hr).elim
end
end Go.Proofs.Ythdeehkmlaejfaa.E
/- The engine, part 22: functions' runs, and contracts out of them. -/
namespace Go.Proofs.Ythdeehkmlaejfaa.E
open Go
set_option linter.unusedSimpArgs false
set_option linter.unusedVariables false
noncomputable section

/-- A function's result. -/
def aRes1 (tt : List TE) (f : List AV) (σ : St) : ResultVar → Option AV
  | .tmp t => some (f.getD t .dead)
  | .cell t ty => match aLoad tt ty (f.getD t .dead) σ with
    | some (true, u) => some u
    | _ => none
def aResL (tt : List TE) (f : List AV) (σ : St) : List ResultVar → Option (List AV)
  | [] => some []
  | r :: rs => match aRes1 tt f σ r, aResL tt f σ rs with
    | some u, some us => some (u :: us)
    | _, _ => none
def aRes (tt : List TE) (rs : List ResultVar) (f : List AV) (σ : St) : Option AV :=
  match aResL tt f σ rs with
  | some [u] => some u
  | some us => some (.t us)
  | none => none

theorem aResL_ok {P : Program} {tt : List TE} (ht : TTok P tt) {F0 : Nat → Nat → Prop} {W0 : World} {R : Nat → Prop} {φ : Phi} {σ : St} {f : List AV} {tmps : Array Value} {W : World} (h : Rel F0 W0 R φ σ f tmps W) : ∀ (rs : List ResultVar) (us : List AV), aResL tt f σ rs = some us →
    ∃ vs : List Value, (rs.mapM (fun (r : ResultVar) => match r with | .tmp t => (pure (tmps.getD t undef) : Sem Value) | .cell a t => do loadVar t (← asAddr (tmps.getD a undef)))).run P W = .ok vs W ∧ us.length = vs.length ∧ ∀ (k : Nat) (u : AV) (x : Value), us[k]? = some u → vs[k]? = some x → VR R φ W u x := by
  have hev : ∀ t, VR R φ W (f.getD t .dead) (tmps.getD t undef) := fun t => ev_ok h [] (.tmp t)
  intro rs
  induction rs with
  | nil => intro us hu; obtain rfl := Option.some.inj hu; exact ⟨[], by simp, rfl, fun k u x hu => by simp at hu⟩
  | cons r rs ih =>
    intro us hu
    simp only [aResL] at hu
    split at hu
    case h_2 => cases hu
    rename_i u us' h1 h2
    obtain rfl := Option.some.inj hu
    obtain ⟨vs, e1, e2, e3⟩ := ih us' h2
    obtain ⟨v, e4, e5⟩ : ∃ v, (match r with | .tmp t => (pure (tmps.getD t undef) : Sem Value) | .cell a t => do loadVar t (← asAddr (tmps.getD a undef))).run P W = .ok v W ∧ VR R φ W u v := by
      cases r with
      | tmp t => obtain rfl := Option.some.inj h1; exact ⟨_, rfl, hev t⟩
      | cell a t =>
        simp only [aRes1] at h1
        split at h1
        case h_2 => cases h1
        rename_i u' hl
        obtain rfl := Option.some.inj h1
        obtain ⟨y, g1, g2⟩ := aLoad_ok (P := P) ht h.sim (hev a) hl rfl
        refine ⟨y, ?_, g2⟩
        have hp : ∃ ad, tmps.getD a undef = .pointer (some ad) := by
          have hv := hev a
          generalize f.getD a .dead = w at hv hl
          generalize tmps.getD a undef = v at hv
          cases hv with
          | p h => exact ⟨_, rfl⟩
          | q h => exact ⟨_, rfl⟩
          | imm hi => cases hi with
            | ip => exact ⟨_, rfl⟩
            | _ => simp [aLoad] at hl; split at hl <;> cases hl
          | _ => simp [aLoad] at hl; split at hl <;> cases hl
        obtain ⟨ad, had⟩ := hp
        rw [had] at g1
        simp only [Instr.loadAt, Instr.sureAddr, Sem.run_bind, Sem.run_pure, Result.andThen_ok] at g1
        show (do loadVar t (← asAddr (tmps.getD a undef)) : Sem Value).run P W = _
        rw [had]
        simp only [asAddr, Sem.run_bind, Sem.run_pure, Result.andThen_ok]
        exact g1
    refine ⟨v :: vs, ?_, by simp [e2], fun k w x hw hx => ?_⟩
    · simp only [List.mapM_cons, Sem.run_bind, e4, Result.andThen_ok, e1, Sem.run_pure]
    · cases k with
      | zero => simp at hw hx; subst hw hx; exact e5
      | succ k => exact e3 k w x (by simpa using hw) (by simpa using hx)

theorem aRes_ok {P : Program} {tt : List TE} (ht : TTok P tt) {F0 : Nat → Nat → Prop} {W0 : World} {R : Nat → Prop} {φ : Phi} {σ : St} {f : List AV} {tmps : Array Value} {W : World} (h : Rel F0 W0 R φ σ f tmps W) {fn : Func} {u : AV} (hu : aRes tt fn.results.toList f σ = some u) :
    ∃ v, (results fn tmps).run P W = .ok v W ∧ VR R φ W u v := by
  unfold aRes at hu
  cases hl : aResL tt f σ fn.results.toList with
  | none => simp [hl] at hu
  | some us =>
    obtain ⟨vs, e1, e2, e3⟩ := aResL_ok (P := P) ht h _ us hl
    have hrun : (fn.results.mapM (fun (r : ResultVar) => match r with | .tmp t => (pure (tmps.getD t undef) : Sem Value) | .cell a t => do loadVar t (← asAddr (tmps.getD a undef)))).run P W = .ok vs.toArray W := by
      rw [Array.mapM_eq_mapM_toList, Sem.run_map, e1]; rfl
    have key : ∀ v, (if h : vs.toArray.size = 1 then vs.toArray[0] else Value.tuple vs.toArray) = v → (results fn tmps).run P W = .ok v W := by
      intro v hv
      unfold results
      simp only [Sem.run_bind, Sem.run_pure]
      refine (congrArg (fun r => Result.andThen r _) hrun).trans ?_
      simp only [Result.andThen_ok]
      rw [hv]
    simp only [hl] at hu
    split at hu
    · rename_i us' u' hs
      obtain rfl := Option.some.inj hu
      obtain rfl := Option.some.inj hs
      match vs, e2, e3, key with
      | [v], _, e3, key => exact ⟨v, key v rfl, e3 0 _ v rfl rfl⟩
    · rename_i us' hne hs
      obtain rfl := Option.some.inj hu
      obtain rfl := Option.some.inj hs
      have hlen : ¬ vs.toArray.size = 1 := by
        intro h1
        match us, e2, hne with
        | [u'], _, hne => exact hne u' rfl
        | [], e2, _ => simp at h1 e2; omega
        | _ :: _ :: _, e2, _ => simp at h1 e2; omega
      exact ⟨.tuple vs.toArray, key _ (by rw [dif_neg hlen]), .t e2 e3⟩
    · rename_i hs; cases hs

/-- A function's run, with what goes on behind it. -/
def runFn (X : Cx) (fn : Func) (c : Code) : Run := fun args σ Y K =>
  normL (args ++ List.replicate (fn.ntmps - args.length) .dead) fun f => runC X Y σ.length c f σ fun e f σ' => match e with
    | .exit _ => none
    | _ => match aRes X.tt fn.results.toList f σ' with
      | some u => forceK u fun u => normL σ' fun σ' => K u σ'
      | none => none

def bodyOf (fn : Func) : Code := fn.body.getD .skip

theorem Keep.putDef {W : World} {D : Nat} {x : Option (List Deferred)} (h : W.heap[D]? = some (.deferred x)) (o : Obj) : Keep (fun b _ => b = D) W (W.putObj D o) where
  os := rfl
  tape := rfl
  output := rfl
  size := by simp
  obj b' _ hn := World.putObj_heap_other fun e => hn 0 e
  cells b' c T fr hc := by
    have hne : b' ≠ D := fun e => by subst e; rw [h] at hc; cases hc
    exact ⟨c, by rw [World.putObj_heap_other hne]; exact hc, rfl, fun _ _ => rfl⟩
  loops b' r' hr := by
    have hne : b' ≠ D := fun e => by subst e; rw [h] at hr; cases hr
    exact ⟨r'.state, r'.pending, by rw [World.putObj_heap_other hne]; exact hr⟩

/-- What is known lives on where a mark is taken. -/
theorem leaves_ok {P : Program} {fn : Func} {tmps : Array Value} {post : Ending → World → Prop} {E : Ent} {R : Nat → Prop} {φ : Phi} {σ : St} {f : List AV} (hl : f.length = tmps.size)
    (hfin : ∀ w, Turn E.R E.φ E.σ E.W R φ σ w → (∀ (t : Nat) (u : AV), f[t]? = some u → VR R φ w u (tmps.getD t undef)) → ∃ v, (results fn tmps).run P w = .ok v w ∧ post (.returned v) w) :
    ∀ (Ds : List Nat) (w : World), Turn E.R E.φ E.σ E.W R φ σ w → (∀ (t : Nat) (u : AV), f[t]? = some u → VR R φ w u (tmps.getD t undef)) → Ds.Nodup → (∀ D ∈ Ds, E.W.heap.size ≤ D ∧ w.heap[D]? = some (.deferred (some []))) →
    LeavesInM Fence.wide 0 P fn tmps post (Ds.map fun D => ({ target := .collected D, args := #[] } : Deferred)) .returning w := by
  intro Ds
  induction Ds with
  | nil => intro w hT hf _ _; exact hfin w hT hf
  | cons D Ds ih =>
    intro w hT hf hnd hD
    obtain ⟨h1, h2⟩ := hD D (List.mem_cons_self)
    have hk := Keep.putDef h2 (.deferred none)
    have hcalm : Calm R w (w.putObj D (.deferred none)) := fun b k x _ hx => by
      have hne : b ≠ D := fun e => by subst e; obtain ⟨c, T, fr, hc⟩ := block_of_cell hx; rw [h2] at hc; cases hc
      exact hk.cell hne hx
    have hnot : ∀ b k, Owned φ σ b k → b ≠ D := fun b k hw e => by
      subst e
      rcases hT.sim.owned hw with ⟨c, T, fr, h3⟩ | ⟨r, h3⟩ | ⟨es, c, h3⟩ | ⟨m, s, seen, st, h3⟩ <;> rw [h2] at h3 <;> cases h3
    refine ⟨by simp, .inl ⟨D, _, rfl, run_takeDeferred h2, ?_⟩⟩
    have hnd := List.nodup_cons.1 hnd
    refine ih _ ⟨hT.hR, hT.hR', hT.ext, ⟨fun l B e => (hT.sim.blk l B e).kept' hk (fun _ h => h) hcalm (fun b k hw => hnot b k ⟨l, B, e, hw⟩) (Ext.refl _) (fun h => h), hT.sim.sep, hT.sim.ro, hT.sim.old.keep hk.size hcalm, hT.sim.dom⟩, hT.reg, hT.keep.trans hk fun b k e => .inr (by rw [e]; exact h1)⟩
      (fun t u hu => (hf t u hu).mono (fun _ h => h) hcalm hk.room_le (Ext.refl _)) hnd.2 fun D' hD' => ⟨(hD D' (List.mem_cons_of_mem _ hD')).1, ?_⟩
    rw [World.putObj_heap_other (fun e => by subst e; exact hnd.1 hD')]
    exact (hD D' (List.mem_cons_of_mem _ hD')).2

/-- A function's run. -/
theorem runFn_ok {P : Program} {X : Cx} (hX : CxOk P X) {g : Nat} {fn : Func} (hg : P.funcs[g]? = some fn) (hnm : (fn.name == "runtime.NumGoroutine") = false) {c : Code} (hc : fn.body = some c) : RunOk P g (runFn X fn c) := by
  refine ⟨⟨fn, hg, hnm, by rw [hc]; rfl⟩, fun {args σ Y K} hr {R φ W} hs hY {vals} hv => ?_⟩
  refine callsIn_wide (n := 0).1 (callsIn_of_wp_marks hg hc trivial ?_)
  unfold runFn at hr
  rw [normL_eq] at hr
  have hH : Holds ⟨R, φ, σ, W⟩ (args ++ List.replicate (fn.ntmps - args.length) .dead) σ { tmps := vals.toArray ++ Array.replicate (fn.ntmps - vals.toArray.size) undef, defers := [] } W := by
    refine ⟨R, φ, Turn.refl hs, by simp [hv.1], fun t w hw => ?_, Marks.nil _ _⟩
    rw [List.getElem?_append] at hw
    split at hw
    · rename_i hlt
      obtain ⟨x, hx⟩ := vs_get hv.1 hw
      have : (vals.toArray ++ Array.replicate (fn.ntmps - vals.toArray.size) undef).getD t undef = x := by
        rw [Array.getD_eq_getD_getElem?, Array.getElem?_append_left (by simp; have := hv.1; omega)]
        simp [hx]
      rw [this]; exact hv.2 t w x hw hx
    · rw [List.getElem?_replicate] at hw
      split at hw
      · obtain rfl := Option.some.inj hw; exact .dead _
      · cases hw
  refine runC_ok hX c (E := ⟨R, φ, σ, W⟩) (r := none) hs hY (fun l h => by cases h) (Nat.le_refl _) hH hr fun e f' σ1 a' w' h' hk => ?_
  obtain ⟨R', φ', hT, hl, hf, Ds, hds, hnd, hD⟩ := h'
  have fin : tr (match aRes X.tt fn.results.toList f' σ1 with | some u => forceK u fun u => normL σ1 fun σ1 => K u σ1 | none => none) → LeavesInM Fence.wide 0 P fn a'.tmps (fun e W' => ∃ u σ' v R' φ', e = .returned v ∧ Turn R φ σ W R' φ' σ' W' ∧ VR R' φ' W' u v ∧ tr (K u σ')) a'.defers .returning w' := by
    intro hk
    split at hk
    case h_2 => exact hk.elim
    rename_i u1 hu
    rw [forceK_eq, normL_eq] at hk
    rw [hds]
    refine leaves_ok (E := ⟨R, φ, σ, W⟩) hl (fun w hT hf => ?_) Ds w' hT hf hnd hD
    obtain ⟨v, e1, e2⟩ := aRes_ok (P := P) hX.tt (localRel hT.sim hl hf) hu
    exact ⟨v, e1, u1, σ1, v, R', φ', rfl, hT, e2, hk⟩
  cases e with
  | normal => exact fin hk
  | ret => exact fin hk
  | exit id => exact hk.elim

/-- What is to come: no less than this. -/
def Fin (nb : Nat) (u : AV) (σ : St) : AV → St → Option Prop := fun u' σ' => some (Cov nb [u] σ [u'] σ')
/-- A function's run, by what comes of it. -/
def runF (X : Cx) (fn : Func) (args : List AV) (σ : St) (u : AV) (σ' : St) : Prop := tr (runFn X fn (bodyOf fn) args σ (fun _ => none) (Fin σ.length u σ'))

theorem runF_ok {P : Program} {X : Cx} (hX : CxOk P X) {g : Nat} {fn : Func} (hg : P.funcs[g]? = some fn) (hnm : (fn.name == "runtime.NumGoroutine") = false) (hc : fn.body = some (bodyOf fn)) {args : List AV} {σ σ' : St} {u : AV} (hr : runF X fn args σ u σ')
    {R : Nat → Prop} {φ : Phi} {W : World} (hs : Sim R φ σ W) {vals : List Value} (hv : VRs R φ W args vals) : Calls P g vals.toArray W fun e W' => ∃ v R' φ', e = .returned v ∧ Turn R φ σ W R' φ' σ' W' ∧ VR R' φ' W' u v := by
  refine ((runFn_ok hX hg hnm hc).ok hr hs (YOk.none _ _ _ _ _) hv).mono ?_
  rintro e W' ⟨u1, σ1, v, R1, φ1, rfl, hT, hv1, hcov⟩
  have hh : Holds ⟨R, φ, σ, W⟩ [u1] σ1 ⟨#[v], []⟩ W' := ⟨R1, φ1, hT, rfl, fun t w hw => by
    cases t with
    | zero => simp at hw; subst hw; exact hv1
    | succ t => simp at hw, Marks.nil _ _⟩
  obtain ⟨R2, φ2, hT2, _, hf2, _⟩ := Cov.holds hcov (E := ⟨R, φ, σ, W⟩) (Nat.le_refl _) (fun l h => hs.dom l h) hh
  exact ⟨v, R2, φ2, rfl, hT2, by simpa using hf2 0 u rfl⟩

/-- Values that hang on no root. -/
def closed : AV → Bool
  | .v x => scal x
  | .i _ _ _ => true
  | .z => true
  | .a cs => cs.all pureCell
  | .t cs => cs.all fun u => match u with | .a cs => cs.all pureCell | u => pureCell u
  | _ => false

theorem closed_ok {R : Nat → Prop} {φ φ' : Phi} {W : World} {u : AV} {v : Value} (hc : closed u = true) (h : VR R φ W u v) : VR R φ' W u v := by
  have pc : ∀ {u : AV} {v : Value}, pureCell u = true → VR R φ W u v → VR R φ' W u v := fun hp h => .imm (pureCell_ok h hp).1
  have ag : ∀ {cs : List AV} {v : Value}, cs.all pureCell = true → VR R φ W (.a cs) v → VR R φ' W (.a cs) v := by
    intro cs v hp h
    obtain ⟨vs, rfl, hl, hr⟩ := h.agg
    exact .a hl fun k w x hw hx => pc (List.all_eq_true.1 hp w (List.mem_of_getElem? hw)) (hr k w x hw hx)
  cases u with
  | v x => exact pc hc h
  | i sz n get => exact pc rfl h
  | z => exact pc rfl h
  | a cs => exact ag hc h
  | t cs =>
    obtain ⟨vs, rfl, hl, hr⟩ := h.tup
    refine .t hl fun k w x hw hx => ?_
    have := List.all_eq_true.1 hc w (List.mem_of_getElem? hw)
    have hv := hr k w x hw hx
    cases w with
    | a cs => exact ag this hv
    | _ => exact pc this hv
  | _ => cases hc

/-- A contract of a function that only reckons: its values hang on no root, and it is told from no root. -/
def pureCtr (G : List AV → Option (Bool × AV)) : Ctr := fun args σ => match G args with | some (c, u) => some (c, u, σ) | none => none
theorem pureCtr_pure (G : List AV → Option (Bool × AV)) : CtrPure (pureCtr G) := by
  intro args σ c u σ' h
  unfold pureCtr at h ⊢
  cases hG : G args with
  | none => simp [hG] at h
  | some p =>
    obtain ⟨c0, u0⟩ := p
    simp only [hG, Option.some.injEq, Prod.mk.injEq] at h
    obtain ⟨rfl, rfl, rfl⟩ := h
    exact ⟨rfl, fun _ => rfl⟩

/-- A run from no root, for whoever calls. -/
theorem Turn.closed {R : Nat → Prop} {φ φ' : Phi} {σ σ' : St} {W W' : World} {R' : Nat → Prop} (hs : Sim R φ σ W) (h : Turn R (fun _ => none) [] W R' φ' σ' W') : Turn R φ σ W R' φ σ W' := by
  have hno : ∀ b k, ¬ Owned (fun _ => none) [] b k := fun b k ⟨l, B, e, _⟩ => by simp at e
  have hk : Keep (fun _ _ => False) W W' := h.keep.mono fun b k hw => hno b k hw
  exact ⟨h.hR, fun b hb => by
    rcases h.hR' b hb with h1 | h1 | ⟨k, h1⟩
    · exact .inl h1
    · exact .inr (.inl h1)
    · exact (hno b k h1).elim, Ext.refl _, ⟨fun l B e => (hs.blk l B e).kept hk h.hR (fun _ _ h => h.elim) (fun _ _ _ h => h.elim) (Ext.refl _) (fun h => h), hs.sep, fun l B e b k hw hb => by
    rcases h.hR' b hb with h1 | h1 | ⟨k', h1⟩
    · exact hs.ro l B e b k hw h1
    · have := (hs.blk l B e).owned hw; omega
    · exact hno b k' h1, h.sim.old, hs.dom⟩, fun _ _ h => .inl h, hk.mono fun _ _ h => h.elim⟩

theorem sim_nil {R : Nat → Prop} {W : World} (h : Old R W) : Sim R (fun _ => none) [] W := ⟨fun l B h => by simp at h, fun l l' B B' _ h => by simp at h, fun l B h => by simp at h, h, fun l _ => rfl⟩

theorem pureCtr_ok {P : Program} {X : Cx} (hX : CxOk P X) {g : Nat} {fn : Func} (hg : P.funcs[g]? = some fn) (hnm : (fn.name == "runtime.NumGoroutine") = false) (hc : fn.body = some (bodyOf fn)) {G : List AV → Option (Bool × AV)}
    (hG : ∀ args u, G args = some (true, u) → closed u = true ∧ args.all closed = true ∧ runF X fn args [] u []) : CtrOk P g (pureCtr G) := by
  refine ⟨⟨fn, hg, hnm, by rw [hc]; rfl⟩, ?_⟩
  intro args σ u σ' h R φ W hs vals hv
  unfold pureCtr at h
  split at h
  case h_2 => cases h
  rename_i c1 u1 hG1
  simp only [Option.some.injEq, Prod.mk.injEq] at h
  obtain ⟨rfl, rfl, rfl⟩ := h
  obtain ⟨hcl, hca, hrun⟩ := hG args u1 hG1
  refine (runF_ok hX hg hnm hc hrun (sim_nil hs.old) ⟨hv.1, fun k w x hw hx => closed_ok (List.all_eq_true.1 hca w (List.mem_of_getElem? hw)) (hv.2 k w x hw hx)⟩).mono ?_
  rintro e W' ⟨v, R', φ', rfl, hT, hv'⟩
  exact ⟨v, R', φ, rfl, hT.closed hs, closed_ok hcl hv'⟩

theorem leaf {p : Prop} (h : p) : tr (some p) := h
/-- The end, where the value is the one that is told. -/
theorem fin0 {u u' : AV} {σ' : St} (h : Fit [] σ' u u') : tr (Fin 0 u [] u' σ') := .mk [] List.nodup_nil ⟨h, trivial⟩ trivial rfl
/-- A test parts the way. -/
theorem br {b : Bool} {x y : Option Prop} (ht : b = true → tr x) (hf : b = false → tr y) : tr (cond b x y) := by
  cases b
  · exact hf rfl
  · exact ht rfl
/-- A condition is met. -/
theorem brt {b : Bool} {x y : Option Prop} (h : b = true) (ht : tr x) : tr (cond b x y) := by rw [h]; exact ht
theorem brf {b : Bool} {x y : Option Prop} (h : b = false) (ht : tr y) : tr (cond b x y) := by rw [h]; exact ht

abbrev i64 (n : Int) : AV := .v (.int .i64 n)
abbrev u64 (n : Int) : AV := .v (.int .u64 n)
abbrev boo (b : Bool) : AV := .v (.bool b)
/-- Arguments that are whole numbers. -/
def int1 (F : Int → Option (Bool × AV)) : List AV → Option (Bool × AV)
  | [.v (.int .i64 a)] => F a
  | _ => none
def int2 (F : Int → Int → Option (Bool × AV)) : List AV → Option (Bool × AV)
  | [.v (.int .i64 a), .v (.int .i64 b)] => F a b
  | _ => none
def int3 (F : Int → Int → Int → Option (Bool × AV)) : List AV → Option (Bool × AV)
  | [.v (.int .i64 a), .v (.int .i64 b), .v (.int .i64 c)] => F a b c
  | _ => none
theorem int1_some {F : Int → Option (Bool × AV)} {args : List AV} {u : Bool × AV} (h : int1 F args = some u) : ∃ a, args = [i64 a] ∧ F a = some u := by
  unfold int1 at h
  split at h
  · exact ⟨_, rfl, h⟩
  · cases h
theorem int2_some {F : Int → Int → Option (Bool × AV)} {args : List AV} {u : Bool × AV} (h : int2 F args = some u) : ∃ a b, args = [i64 a, i64 b] ∧ F a b = some u := by
  unfold int2 at h
  split at h
  · exact ⟨_, _, rfl, h⟩
  · cases h
theorem int3_some {F : Int → Int → Int → Option (Bool × AV)} {args : List AV} {u : Bool × AV} (h : int3 F args = some u) : ∃ a b c, args = [i64 a, i64 b, i64 c] ∧ F a b c = some u := by
  unfold int3 at h
  split at h
  · exact ⟨_, _, _, rfl, h⟩
  · cases h
end
end Go.Proofs.Ythdeehkmlaejfaa.E
/- The engine, part 23: loops; contexts one behind the other. -/
namespace Go.Proofs.Ythdeehkmlaejfaa.E
open Go
set_option linter.unusedSimpArgs false
set_option linter.unusedVariables false

section
variable {β : Type} {nb : Nat} {inv : β → Prop} {hf : β → List AV} {hs : β → St} {μ : β → Nat} {f f0 : List AV} {σ σ0 : St}
/-- Into a loop. -/
theorem loopIn {round : List AV → St → (Ex → List AV → St → Prop) → Option Prop} {K : Ex → List AV → St → Prop} (inv : β → Prop) (hf : β → List AV) (hs : β → St) (μ : β → Nat) (x : β) (ρ : List Nat) (hi : inv x) (hn : ρ.Nodup) (h1 : FitL ρ σ (hf x) f) (h2 : FitS ρ σ ρ (hs x)) (hid : idUpto nb ρ = true)
    (step : ∀ x, inv x → tr (normF (hf x) fun f => normL (hs x) fun σ => round f σ (After nb inv hf hs μ x K))) : tr (some (LoopP nb round f σ K)) := ⟨β, inv, hf, hs, μ, x, hi, .mk ρ hn h1 h2 hid, step⟩
theorem loopInC {round : List AV → St → (Ex → List AV → St → Prop) → Option Prop} {K : Ex → List AV → St → Prop} (inv : β → Prop) (hf : β → List AV) (hs : β → St) (μ : β → Nat) (x : β) (hi : inv x) (hc : Cov nb (hf x) (hs x) f σ)
    (step : ∀ x, inv x → tr (normF (hf x) fun f => normL (hs x) fun σ => round f σ (After nb inv hf hs μ x K))) : tr (some (LoopP nb round f σ K)) := ⟨β, inv, hf, hs, μ, x, hi, hc, step⟩
theorem againC {x : β} {K : Ex → List AV → St → Prop} (y : β) (hi : inv y) (hm : μ y < μ x) (hc : Cov nb (hf y) (hs y) f σ) : tr (some (After nb inv hf hs μ x K .normal f σ)) := ⟨y, hi, hm, hc⟩
theorem leaveC {x : β} {K : Ex → List AV → St → Prop} {id : Nat} (f0 : List AV) (σ0 : St) (hc : Cov nb f0 σ0 f σ) (hk : K (.exit id) f0 σ0) : tr (some (After nb inv hf hs μ x K (.exit id) f σ)) := .inr ⟨f0, σ0, hc, hk⟩
/-- Another round. -/
theorem again {x : β} {K : Ex → List AV → St → Prop} (y : β) (ρ : List Nat) (hi : inv y) (hm : μ y < μ x) (hn : ρ.Nodup) (h1 : FitL ρ σ (hf y) f) (h2 : FitS ρ σ ρ (hs y)) (hid : idUpto nb ρ = true) : tr (some (After nb inv hf hs μ x K .normal f σ)) := ⟨y, hi, hm, .mk ρ hn h1 h2 hid⟩
/-- Out of a loop. -/
theorem leave {x : β} {K : Ex → List AV → St → Prop} {id : Nat} (hk : K (.exit id) f σ) : tr (some (After nb inv hf hs μ x K (.exit id) f σ)) := .inl hk
theorem leaveRet {x : β} {K : Ex → List AV → St → Prop} (hk : K .ret f σ) : tr (some (After nb inv hf hs μ x K .ret f σ)) := .inl hk
theorem leaveAs {x : β} {K : Ex → List AV → St → Prop} {id : Nat} (f0 : List AV) (σ0 : St) (ρ : List Nat) (hn : ρ.Nodup) (h1 : FitL ρ σ f0 f) (h2 : FitS ρ σ ρ σ0) (hid : idUpto nb ρ = true) (hk : K (.exit id) f0 σ0) : tr (some (After nb inv hf hs μ x K (.exit id) f σ)) := .inr ⟨f0, σ0, .mk ρ hn h1 h2 hid, hk⟩
end

section
variable {β : Type} {nb : Nat} {inv : β → Prop} {hf : β → List AV} {hs : β → St} {f : List AV} {σ : St}
/-- Where ways come together. -/
theorem joinIn {first : (List AV → St → Prop) → Option Prop} {rest : List AV → St → Prop} (inv : β → Prop) (hf : β → List AV) (hs : β → St) (h1 : tr (first fun f σ => ∃ y, inv y ∧ Cov nb (hf y) (hs y) f σ)) (h2 : ∀ y, inv y → rest (hf y) (hs y)) :
    tr (some (JoinP nb first rest)) := ⟨β, inv, hf, hs, h1, h2⟩
theorem joinTo (y : β) (ρ : List Nat) (hi : inv y) (hn : ρ.Nodup) (h1 : FitL ρ σ (hf y) f) (h2 : FitS ρ σ ρ (hs y)) (hid : idUpto nb ρ = true) : tr (some (∃ y, inv y ∧ Cov nb (hf y) (hs y) f σ)) := ⟨y, hi, .mk ρ hn h1 h2 hid⟩
theorem joinToC (y : β) (hi : inv y) (hc : Cov nb (hf y) (hs y) f σ) : tr (some (∃ y, inv y ∧ Cov nb (hf y) (hs y) f σ)) := ⟨y, hi, hc⟩
end
/-- Ways come together behind a test of the slot n (k = n), behind the block id (k = 100000 + id), or behind the region id (k = 200000 + id). -/
def Cx.join (X : Cx) (k : Nat) : Cx := ⟨X.tt, X.cs, (1000000000 + k, .pure) :: X.kd, X.ks⟩
theorem CxOk.join {P : Program} {X : Cx} (hX : CxOk P X) (k : Nat) (h : ctr X.cs (1000000000 + k) = none) : CxOk P (X.join k) where
  tt := hX.tt
  cs := hX.cs
  kd g' k' G' h1 h2 := by
    simp only [Cx.join, kindOf, List.find?] at h1 h2
    cases hb : Nat.beq (1000000000 + k) g' with
    | true =>
      obtain rfl := Nat.eq_of_beq_eq_true hb
      rw [h] at h2
      cases h2
    | false =>
      simp only [hb] at h1
      exact hX.kd g' k' G' h1 h2
  ks := hX.ks
  mixed := hX.mixed

/-- A frame of n slots, these of which are told. -/
def frm (n : Nat) (l : List (Nat × AV)) : List AV := (List.range n).map fun k => match l.find? fun p => Nat.beq p.1 k with | some p => p.2 | none => .dead

/-! ### Contexts -/
theorem CxOk.nil {P : Program} {tt : List TE} (ht : TTok P tt) (hm : P.follows .mixedOrders = true) : CxOk P ⟨tt, [], [], []⟩ :=
  ⟨ht, fun p h => by simp at h, fun g k G h => by simp [kindOf] at h, fun p h => by simp at h, hm⟩
/-- One more function, of a kind. -/
def Cx.add (X : Cx) (g : Nat) (k : Kind) (G : Ctr) : Cx := ⟨X.tt, (g, G) :: X.cs, (g, k) :: X.kd, X.ks⟩
/-- One more function that is run where it is called. -/
def Cx.addRun (X : Cx) (g : Nat) (T : Run) : Cx := ⟨X.tt, X.cs, X.kd, (g, T) :: X.ks⟩
/-- A context in which rows of slices that are made are told by their elements, however few they are. -/
def Cx.tabs (X : Cx) : Cx := ⟨X.tt.map fun e => ⟨e.t, e.td, e.size, e.bytes, e.zero, false⟩, X.cs, X.kd, X.ks⟩
theorem CxOk.tabs {P : Program} {X : Cx} (hX : CxOk P X) : CxOk P X.tabs where
  tt e he := by
    obtain ⟨e', h1, rfl⟩ := List.mem_map.1 he
    exact hX.tt e' h1
  cs := hX.cs
  kd := hX.kd
  ks := hX.ks
  mixed := hX.mixed
theorem CxOk.add {P : Program} {X : Cx} (hX : CxOk P X) {g : Nat} {k : Kind} {G : Ctr} (hG : CtrOk P g G) (hk : KindOk G k) : CxOk P (X.add g k G) where
  tt := hX.tt
  cs p hp := by
    rcases List.mem_cons.1 hp with rfl | hp
    · exact hG
    · exact hX.cs p hp
  kd g' k' G' h1 h2 := by
    simp only [Cx.add, kindOf, ctr, List.find?] at h1 h2
    cases hb : Nat.beq g g' with
    | true =>
      simp only [hb, Option.some.injEq] at h1 h2
      subst h1 h2
      exact hk
    | false =>
      simp only [hb] at h1 h2
      exact hX.kd g' k' G' h1 h2
  ks := hX.ks
  mixed := hX.mixed
theorem CxOk.pure {P : Program} {X : Cx} (hX : CxOk P X) {g : Nat} {G : List AV → Option (Bool × AV)} (hG : CtrOk P g (pureCtr G)) : CxOk P (X.add g .pure (pureCtr G)) := hX.add hG (pureCtr_pure G)
theorem CxOk.addRun {P : Program} {X : Cx} (hX : CxOk P X) {g : Nat} {T : Run} (hT : RunOk P g T) : CxOk P (X.addRun g T) where
  tt := hX.tt
  cs := hX.cs
  kd := hX.kd
  ks p hp := by
    rcases List.mem_cons.1 hp with rfl | hp
    · exact hT
    · exact hX.ks p hp
  mixed := hX.mixed
/-! ### Loops, by what they change -/
def hasN (k : Nat) : List Nat → Bool
  | [] => false
  | l :: ls => match Nat.beq l k with
    | true => true
    | false => hasN k ls
/-- A frame of which these slots live, but for those that are told. -/
def keepF (live : List Nat) (l : List (Nat × AV)) : Nat → List AV → List AV
  | _, [] => []
  | k, u :: f => (match l.find? fun p => Nat.beq p.1 k with | some p => p.2 | none => match hasN k live with | true => u | false => .dead) :: keepF live l (k + 1) f
/-- A state, but for the roots that are told. -/
def modS (l : List (Nat × Blk)) : Nat → St → St
  | _, [] => []
  | k, B :: σ => (match l.find? fun p => Nat.beq p.1 k with | some p => p.2 | none => B) :: modS l (k + 1) σ
theorem range_nodup (n : Nat) : (List.range n).Nodup := List.nodup_range
section
variable {β : Type} {nb : Nat} {f f' : List AV} {σ σ' : St}
/-- Into a loop that changes these slots, and these roots. -/
theorem loopM {round : List AV → St → (Ex → List AV → St → Prop) → Option Prop} {K : Ex → List AV → St → Prop} (live : List Nat) (inv : β → Prop) (sl : β → List (Nat × AV)) (rt : β → List (Nat × Blk)) (μ : β → Nat) (x : β) (hi : inv x) (hid : idUpto nb (List.range σ.length) = true)
    (h1 : FitL (List.range σ.length) σ (keepF live (sl x) 0 f) f) (h2 : FitS (List.range σ.length) σ (List.range σ.length) (modS (rt x) 0 σ))
    (step : ∀ x, inv x → tr (normF (keepF live (sl x) 0 f) fun f' => normL (modS (rt x) 0 σ) fun σ' => round f' σ' (After nb inv (fun x => keepF live (sl x) 0 f) (fun x => modS (rt x) 0 σ) μ x K))) : tr (some (LoopP nb round f σ K)) :=
  loopIn inv _ _ μ x _ hi List.nodup_range h1 h2 hid step
/-- Into a loop that changes these slots, and these roots; further roots behind them. -/
theorem loopX {round : List AV → St → (Ex → List AV → St → Prop) → Option Prop} {K : Ex → List AV → St → Prop} (live : List Nat) (inv : β → Prop) (sl : β → List (Nat × AV)) (rt : β → List (Nat × Blk)) (ex : β → St) (ρe : List Nat) (μ : β → Nat) (x : β) (hi : inv x) (hu : uniqB (List.range σ.length ++ ρe) (modS (rt x) 0 σ ++ ex x) = true) (hid : idUpto nb (List.range σ.length ++ ρe) = true)
    (h1 : FitL (List.range σ.length ++ ρe) σ (keepF live (sl x) 0 f) f) (h2 : FitS (List.range σ.length ++ ρe) σ (List.range σ.length ++ ρe) (modS (rt x) 0 σ ++ ex x))
    (step : ∀ x, inv x → tr (normF (keepF live (sl x) 0 f) fun f' => normL (modS (rt x) 0 σ ++ ex x) fun σ' => round f' σ' (After nb inv (fun x => keepF live (sl x) 0 f) (fun x => modS (rt x) 0 σ ++ ex x) μ x K))) : tr (some (LoopP nb round f σ K)) :=
  loopInC inv _ _ μ x hi (.mkd _ hu h1 h2 hid) step
theorem againD {inv : β → Prop} {hf : β → List AV} {hs : β → St} {μ : β → Nat} {x : β} {K : Ex → List AV → St → Prop} (y : β) (ρ : List Nat) (hi : inv y) (hm : μ y < μ x) (hn : uniqB ρ (hs y) = true) (h1 : FitL ρ σ (hf y) f) (h2 : FitS ρ σ ρ (hs y)) (hid : idUpto nb ρ = true) : tr (some (After nb inv hf hs μ x K .normal f σ)) := ⟨y, hi, hm, .mkd ρ hn h1 h2 hid⟩
theorem joinM {first : (List AV → St → Prop) → Option Prop} {rest : List AV → St → Prop} (live : List Nat) (inv : β → Prop) (sl : β → List (Nat × AV)) (rt : β → List (Nat × Blk)) (f : List AV) (σ : St) (h1 : tr (first fun f' σ' => ∃ y, inv y ∧ Cov nb (keepF live (sl y) 0 f) (modS (rt y) 0 σ) f' σ')) (h2 : ∀ y, inv y → rest (keepF live (sl y) 0 f) (modS (rt y) 0 σ)) :
    tr (some (JoinP nb first rest)) := joinIn inv (fun y => keepF live (sl y) 0 f) (fun y => modS (rt y) 0 σ) h1 h2
end
end Go.Proofs.Ythdeehkmlaejfaa.E
/- The engine, part 24: contracts over the roots that a call is handed; contracts that read them alone. -/
namespace Go.Proofs.Ythdeehkmlaejfaa.E
open Go
set_option linter.unusedSimpArgs false
set_option linter.unusedVariables false

/-- Roots named anew. -/
def re1 (h : Nat → Option Nat) : AV → AV
  | .v x => .v x
  | .i sz n g => .i sz n g
  | .ip cs j => .ip cs j
  | .z => .z
  | .p l off => match h l with | some k => .p k off | none => .dead
  | .q l sz i j => match h l with | some k => .q k sz i j | none => .dead
  | .s l sz o n => match h l with | some k => .s k sz o n | none => .dead
  | .y l => match h l with | some k => .y k | none => .dead
  | .mp l => match h l with | some k => .mp k | none => .dead
  | _ => .dead
def re2 (h : Nat → Option Nat) : AV → AV
  | .a cs => .a (cs.map (re1 h))
  | u => re1 h u
def reAV (h : Nat → Option Nat) : AV → AV
  | .a cs => .a (cs.map (re1 h))
  | .t cs => .t (cs.map (re2 h))
  | .f fn us cs => .f fn (us.map (re2 h)) (cs.map (re2 h))
  | u => re1 h u
def reB (h : Nat → Option Nat) : Blk → Blk
  | .lit cs => .lit (cs.map (reAV h))
  | .free => .gone
  | .tabv sz n get rs => .tabv sz n (fun k => (get k).map (reAV h)) (rs.filterMap h)
  | .iter m s seen st => match h m with | some k => .iter k s seen st | none => .gone
  | B => B

section
variable {R R' : Nat → Prop} {φ φ' : Phi} {W W' : World} {h : Nat → Option Nat} (hR : ∀ b, R b → R' b) (hW : Calm R W W') (hr : ∀ b, room W b ≤ room W' b) (hφ : ∀ l k p, h l = some k → φ l = some p → φ' k = some p)
include hR hW hr hφ
theorem re1_ok {u : AV} {x : Value} (hv : VR R φ W u x) : VR R' φ' W' (re1 h u) x := by
  cases hv with
  | imm hi =>
    have hi' := hi.mono hR hW
    cases hi with
    | v => exact .imm hi'
    | nil => exact .imm hi'
    | z => exact .imm hi'
    | i => exact .imm hi'
    | ip => exact .imm hi'
    | a => exact .dead _
    | t => exact .dead _
  | @p l off b o hp =>
    simp only [re1]
    cases hh : h l with
    | none => exact .dead _
    | some k => exact .p (hφ _ _ _ hh hp)
  | @q l sz i j b o hp =>
    simp only [re1]
    cases hh : h l with
    | none => exact .dead _
    | some k => exact .q (hφ _ _ _ hh hp)
  | @nil l sz o _ hp =>
    simp only [re1]
    cases hh : h l with
    | none => exact .dead _
    | some k => exact .nil (hφ _ _ _ hh hp)
  | @z l sz o b f k0 hp =>
    simp only [re1]
    cases hh : h l with
    | none => exact .dead _
    | some k => exact .z (hφ _ _ _ hh hp)
  | @s l sz o n b f cap hp hn hr' =>
    simp only [re1]
    cases hh : h l with
    | none => exact .dead _
    | some k => exact .s (hφ _ _ _ hh hp) hn (Nat.le_trans hr' (hr _))
  | @y l b hp =>
    simp only [re1]
    cases hh : h l with
    | none => exact .dead _
    | some k => exact .y (hφ _ _ _ hh hp)
  | @mp l b hp =>
    simp only [re1]
    cases hh : h l with
    | none => exact .dead _
    | some k => exact .mp (hφ _ _ _ hh hp)
  | a => exact .dead _
  | t => exact .dead _
  | f => exact .dead _
  | dead => exact .dead _
theorem re1s_ok {us : List AV} {xs : List Value} (hl : us.length = xs.length) (hv : ∀ (k : Nat) (u : AV) (x : Value), us[k]? = some u → xs[k]? = some x → VR R φ W u x) :
    (us.map (re1 h)).length = xs.length ∧ ∀ (k : Nat) (u : AV) (x : Value), (us.map (re1 h))[k]? = some u → xs[k]? = some x → VR R' φ' W' u x :=
  ⟨by simpa using hl, fun k u x hu hx => by obtain ⟨y, hy, rfl⟩ := getElem?_map_some hu; exact re1_ok hR hW hr hφ (hv k y x hy hx)⟩
theorem re2_ok {u : AV} {x : Value} (hv : VR R φ W u x) : VR R' φ' W' (re2 h u) x := by
  cases u with
  | a cs =>
    obtain ⟨vs, rfl, hl, hr'⟩ := hv.agg
    obtain ⟨h1, h2⟩ := re1s_ok hR hW hr hφ hl hr'
    exact .a h1 h2
  | _ => exact re1_ok hR hW hr hφ hv
theorem re2s_ok {us : List AV} {xs : List Value} (hl : us.length = xs.length) (hv : ∀ (k : Nat) (u : AV) (x : Value), us[k]? = some u → xs[k]? = some x → VR R φ W u x) :
    (us.map (re2 h)).length = xs.length ∧ ∀ (k : Nat) (u : AV) (x : Value), (us.map (re2 h))[k]? = some u → xs[k]? = some x → VR R' φ' W' u x :=
  ⟨by simpa using hl, fun k u x hu hx => by obtain ⟨y, hy, rfl⟩ := getElem?_map_some hu; exact re2_ok hR hW hr hφ (hv k y x hy hx)⟩
theorem reAV_ok {u : AV} {x : Value} (hv : VR R φ W u x) : VR R' φ' W' (reAV h u) x := by
  cases u with
  | a cs =>
    obtain ⟨vs, rfl, hl, hr'⟩ := hv.agg
    obtain ⟨h1, h2⟩ := re1s_ok hR hW hr hφ hl hr'
    exact .a h1 h2
  | t cs =>
    obtain ⟨vs, rfl, hl, hr'⟩ := hv.tup
    obtain ⟨h1, h2⟩ := re2s_ok hR hW hr hφ hl hr'
    exact .t h1 h2
  | f fn us cs =>
    cases hv with
    | imm hi => cases hi
    | f l1 r1 l2 r2 =>
      obtain ⟨h1, h2⟩ := re2s_ok hR hW hr hφ l1 r1
      obtain ⟨h3, h4⟩ := re2s_ok hR hW hr hφ l2 r2
      exact .f h1 h2 h3 h4
  | _ => exact re1_ok hR hW hr hφ hv
theorem reAVs_ok {us : List AV} {xs : List Value} (hv : VRs R φ W us xs) : VRs R' φ' W' (us.map (reAV h)) xs :=
  ⟨by simpa using hv.1, fun k u x hu hx => by obtain ⟨y, hy, rfl⟩ := getElem?_map_some hu; exact reAV_ok hR hW hr hφ (hv.2 k y x hy hx)⟩
end

/-- A block under another name, elsewhere as it is. -/
theorem reB_ok {R R' : Nat → Prop} {φ φ' : Phi} {W W' : World} {h : Nat → Option Nat} (hR : ∀ b, R b → R' b) {F : Nat → Nat → Prop} (hk : Keep F W W') (hW : Calm R W W') (hφ : ∀ l k p, h l = some k → φ l = some p → φ' k = some p) {l k : Nat} {B : Blk} (hl : h l = some k)
    (hB : BlkOk R φ W l B) (ho : ∀ b k, own φ l B b k → ¬ F b k) : BlkOk R' φ' W' k (reB h B) := by
  cases B with
  | lit cs =>
    obtain ⟨b, o, e, f, g⟩ := hB
    refine ⟨b, o, hφ _ _ _ hl e, f.keep hk, fun j u hu => ?_⟩
    obtain ⟨y, hy, rfl⟩ := getElem?_map_some hu
    obtain ⟨x, hx, hv⟩ := g j y hy
    have hlt := lt_of_get? hy
    exact ⟨x, hk.cell (ho b (o + j) ⟨o, e, by omega, by omega⟩) hx, reAV_ok hR hW hk.room_le hφ hv⟩
  | tab sz n get =>
    obtain ⟨z, m, a, g⟩ := hB
    refine ⟨z, m, a, ?_⟩
    rcases g with ⟨e, hn⟩ | ⟨b, o, e, f, g⟩
    · exact .inl ⟨hφ _ _ _ hl e, hn⟩
    · refine .inr ⟨b, o, hφ _ _ _ hl e, f.keep hk, fun k j u hkn hu => ?_⟩
      obtain ⟨x, hx, hv⟩ := g k j u hkn hu
      exact ⟨x, hk.cell (ho b _ ⟨o, e⟩) hx, hv.mono hR hW⟩
  | lrec e =>
    obtain ⟨b, r, h1, h2, h3, h4⟩ := hB
    exact ⟨b, r, hφ _ _ _ hl h1, by rw [hk.obj b (by
      rcases Nat.lt_or_ge b W.heap.size with h | h
      · exact h
      · rw [Array.getElem?_eq_none h] at h2; cases h2) fun k hf => ho b k h1 hf]; exact h2, h3, h4⟩
  | held =>
    obtain ⟨b, r, h1, h2⟩ := hB
    obtain ⟨st, pe, h3⟩ := hk.loops b r h2
    exact ⟨b, _, hφ _ _ _ hl h1, h3⟩
  | gone => trivial
  | free => trivial
  | tabv sz n get =>
    obtain ⟨z, m, a, g⟩ := hB
    refine ⟨z, m, fun k hk => by rw [List.length_map]; exact a k hk, ?_⟩
    rcases g with ⟨e, hn⟩ | ⟨b, o, e, f, g⟩
    · exact .inl ⟨hφ _ _ _ hl e, hn⟩
    · refine .inr ⟨b, o, hφ _ _ _ hl e, f.keep hk, fun k j u hkn hu => ?_⟩
      obtain ⟨y, hy, rfl⟩ := getElem?_map_some hu
      obtain ⟨x, hx, hv, hs⟩ := g k j y hkn hy
      exact ⟨x, hk.cell (ho b _ ⟨o, e⟩) hx, reAV_ok hR hW hk.room_le hφ hv, hs⟩
  | map es c =>
    obtain ⟨b, h1, h2⟩ := hB
    exact ⟨b, hφ _ _ _ hl h1, by rw [hk.obj b (Array.getElem?_eq_some_iff.1 h2).1 fun k hf => ho b k h1 hf]; exact h2⟩
  | iter m s seen st =>
    obtain ⟨b, bm, h1, h3, h2⟩ := hB
    simp only [reB]
    cases hm : h m with
    | none => trivial
    | some k' => exact ⟨b, bm, hφ _ _ _ hl h1, hφ _ _ _ hm h3, by rw [hk.obj b (Array.getElem?_eq_some_iff.1 h2).1 fun k hf => ho b k h1 hf]; exact h2⟩
theorem reB_own {φ φ' : Phi} {h : Nat → Option Nat} {l k : Nat} {B : Blk} (hφ : φ l = φ' k) {b j : Nat} (ho : own φ' k (reB h B) b j) : own φ l B b j := by
  cases B with
  | lit cs => obtain ⟨o, e, h1, h2⟩ := ho; exact ⟨o, hφ.trans e, h1, by simpa using h2⟩
  | tab => obtain ⟨o, e⟩ := ho; exact ⟨o, hφ.trans e⟩
  | lrec => exact hφ.trans ho
  | held => exact hφ.trans ho
  | gone => exact ho.elim
  | free => exact ho.elim
  | tabv => obtain ⟨o, e⟩ := ho; exact ⟨o, hφ.trans e⟩
  | map => exact hφ.trans ho
  | iter m s seen st =>
    simp only [reB] at ho
    split at ho
    · exact hφ.trans ho
    · exact ho.elim

/-! ### The roots that are reached -/
def rootsAV : AV → List Nat
  | .p l _ => [l]
  | .q l _ _ _ => [l]
  | .s l _ _ _ => [l]
  | .y l => [l]
  | .mp l => [l]
  | .a cs => cs.flatMap rootsAV1
  | .t cs => cs.flatMap rootsAV2
  | .f _ us cs => us.flatMap rootsAV2 ++ cs.flatMap rootsAV2
  | _ => []
where
  rootsAV1 : AV → List Nat
    | .p l _ => [l]
    | .q l _ _ _ => [l]
    | .s l _ _ _ => [l]
    | .y l => [l]
    | .mp l => [l]
    | _ => []
  rootsAV2 : AV → List Nat
    | .a cs => cs.flatMap rootsAV1
    | u => rootsAV1 u
def rootsB : Option Blk → List Nat
  | some (.lit cs) => cs.flatMap rootsAV
  | some (.iter m _ _ _) => [m]
  | some (.tabv _ _ _ rs) => rs
  | _ => []
def memN (l : Nat) : List Nat → Bool
  | [] => false
  | m :: ms => match Nat.beq l m with | true => true | false => memN l ms
def reach (σ : St) : Nat → List Nat → List Nat → List Nat
  | 0, _, acc => acc
  | _ + 1, [], acc => acc
  | n + 1, l :: todo, acc => match memN l acc with
    | true => reach σ n todo acc
    | false => reach σ n (rootsB σ[l]? ++ todo) (acc ++ [l])
def idxOf : List Nat → Nat → Option Nat
  | [], _ => none
  | x :: l, m => match Nat.beq x m with
    | true => some 0
    | false => match idxOf l m with | some k => some (k + 1) | none => none
theorem idxOf_some : ∀ {ρ : List Nat} {m k : Nat}, idxOf ρ m = some k → ρ[k]? = some m
  | [], _, _, h => by cases h
  | x :: l, m, k, h => by
    simp only [idxOf] at h
    split at h
    · rename_i hb; obtain rfl := Option.some.inj h; rw [Nat.eq_of_beq_eq_true hb]; rfl
    · split at h
      · rename_i k' hk; obtain rfl := Option.some.inj h; simpa using idxOf_some hk
      · cases h
theorem idxOf_none : ∀ {ρ : List Nat} {m : Nat}, idxOf ρ m = none → m ∉ ρ
  | [], _, _ => by simp
  | x :: l, m, h => by
    simp only [idxOf] at h
    split at h
    · cases h
    · rename_i hb
      split at h
      · cases h
      · rename_i hk
        simp only [List.mem_cons, not_or]
        exact ⟨fun e => Nat.ne_of_beq_eq_false hb e.symm, idxOf_none hk⟩
def nodupB : List Nat → Bool
  | [] => true
  | x :: l => match memN x l with | true => false | false => nodupB l
theorem memN_iff : ∀ {l : Nat} {L : List Nat}, memN l L = true ↔ l ∈ L
  | _, [] => by simp [memN]
  | l, m :: L => by
    simp only [memN]
    cases hb : Nat.beq l m with
    | true => simp [Nat.eq_of_beq_eq_true hb]
    | false => simp [memN_iff, Nat.ne_of_beq_eq_false hb]
theorem nodupB_spec : ∀ {L : List Nat}, nodupB L = true → L.Nodup
  | [], _ => List.nodup_nil
  | x :: l, h => by
    simp only [nodupB] at h
    split at h
    · cases h
    · rename_i hm
      exact List.nodup_cons.2 ⟨fun hx => (by rw [memN_iff.2 hx] at hm; cases hm), nodupB_spec h⟩
theorem idxOf_of : ∀ {ρ : List Nat}, ρ.Nodup → ∀ {m k : Nat}, ρ[k]? = some m → idxOf ρ m = some k
  | [], _, m, k, h => by simp at h
  | x :: l, hn, m, k, h => by
    have hn := List.nodup_cons.1 hn
    simp only [idxOf]
    cases k with
    | zero => simp at h; subst h; simp
    | succ k =>
      simp at h
      have hne : x ≠ m := fun e => hn.1 (e ▸ List.mem_of_getElem? h)
      have hb : Nat.beq x m = false := by
        cases hb : Nat.beq x m with
        | true => exact absurd (Nat.eq_of_beq_eq_true hb) hne
        | false => rfl
      rw [hb, idxOf_of hn.2 h]
def gath (σ : St) : List Nat → Option St
  | [] => some []
  | l :: ρ => match σ[l]?, gath σ ρ with
    | some B, some s => some (B :: s)
    | _, _ => none
theorem gath_get {σ : St} : ∀ {ρ : List Nat} {s : St}, gath σ ρ = some s → s.length = ρ.length ∧ ∀ (k m : Nat), ρ[k]? = some m → ∃ B, σ[m]? = some B ∧ s[k]? = some B
  | [], s, h => by
    obtain rfl := Option.some.inj h
    refine ⟨rfl, ?_⟩
    intro k m hk
    simp at hk
  | l :: ρ, s, h => by
    simp only [gath] at h
    split at h
    · rename_i B s' h1 h2
      obtain rfl := Option.some.inj h
      obtain ⟨e1, e2⟩ := gath_get h2
      refine ⟨by simp [e1], fun k m hk => ?_⟩
      cases k with
      | zero => simp at hk; subst hk; exact ⟨B, h1, rfl⟩
      | succ k => obtain ⟨B', g1, g2⟩ := e2 k m (by simpa using hk); exact ⟨B', g1, by simpa using g2⟩
    · cases h
/-- The roots' names for the one who calls. -/
def back (ρ : List Nat) (n : Nat) : Nat → Option Nat := fun k => match ρ[k]? with
  | some m => some m
  | none => some (n + (k - ρ.length))
def setAll : St → List Nat → St → St
  | σ, m :: ρ, B :: bs => setAll (σ.set m B) ρ bs
  | σ, _, _ => σ
theorem setAll_len : ∀ (ρ : List Nat) (bs σ : St), (setAll σ ρ bs).length = σ.length
  | m :: ρ, B :: bs, σ => by simp only [setAll]; rw [setAll_len]; simp
  | [], _, σ => by simp [setAll]
  | _ :: _, [], σ => by simp [setAll]
theorem setAll_other : ∀ (ρ : List Nat) (bs σ : St) (m : Nat), m ∉ ρ → (setAll σ ρ bs)[m]? = σ[m]?
  | m' :: ρ, B :: bs, σ, m, h => by
    simp only [setAll]
    rw [setAll_other ρ bs _ m fun hm => h (List.mem_cons_of_mem _ hm), List.getElem?_set_ne fun e => h (by rw [e]; exact List.mem_cons_self)]
  | [], _, σ, _, _ => by simp [setAll]
  | _ :: _, [], σ, _, _ => by simp [setAll]
theorem setAll_at : ∀ (ρ : List Nat) (bs σ : St), ρ.Nodup → ρ.length ≤ bs.length → (∀ m ∈ ρ, m < σ.length) → ∀ (k m : Nat), ρ[k]? = some m → (setAll σ ρ bs)[m]? = bs[k]?
  | m' :: ρ, B :: bs, σ, hn, hl, hlt, k, m, hk => by
    have hn := List.nodup_cons.1 hn
    simp only [setAll]
    cases k with
    | zero =>
      simp at hk; subst hk
      rw [setAll_other ρ bs _ m' hn.1, List.getElem?_set_self (hlt m' (List.mem_cons_self))]
      rfl
    | succ k =>
      rw [setAll_at ρ bs _ hn.2 (by simpa using hl) (fun x hx => by simpa using hlt x (List.mem_cons_of_mem _ hx)) k m (by simpa using hk)]
      rfl
  | [], _, σ, _, _, _, k, m, hk => by simp at hk
  | _ :: _, [], σ, _, hl, _, k, m, hk => by simp at hl

/-- A contract over the roots that are reached from its arguments: they come first, in the order in which they are reached; new ones behind. -/
def localCtr (G : List AV → St → Option (Bool × AV × St)) : Ctr := fun args σ =>
  normL (reach σ 64 (args.flatMap rootsAV) []) fun ρ => match gath σ ρ with
    | some bs => match G (args.map (reAV (idxOf ρ))) (bs.map (reB (idxOf ρ))) with
      | some (c, u, σl) => match nodupB ρ && Nat.ble ρ.length σl.length with
        | true => some (c, reAV (back ρ σ.length) u, setAll σ ρ (σl.map (reB (back ρ σ.length))) ++ (σl.map (reB (back ρ σ.length))).drop ρ.length)
        | false => none
      | none => none
    | none => none
def footL : List AV → St → List Nat := fun args σ => reach σ 64 (args.flatMap rootsAV) []
/-- The same blocks, but for how rows are told. -/
def Same1 (B0 B : Blk) : Prop := B0 = B ∨ ∃ sz n g0 g, B0 = .tab sz n g0 ∧ B = .tab sz n g ∧ ∀ k, k < n → g0 k = g k
inductive SameS : St → St → Prop
  | nil : SameS [] []
  | cons {a b : Blk} {s t : St} (h : Same1 a b) (r : SameS s t) : SameS (a :: s) (b :: t)
theorem Same1.refl (B : Blk) : Same1 B B := .inl rfl
theorem Same1.tab {sz n : Nat} {g0 g : Nat → List AV} (h : ∀ k, k < n → g0 k = g k) : Same1 (.tab sz n g0) (.tab sz n g) := .inr ⟨sz, n, g0, g, rfl, rfl, h⟩
theorem SameS.refl : ∀ σ : St, SameS σ σ
  | [] => .nil
  | B :: s => .cons (.inl rfl) (SameS.refl s)
theorem SameS.len : ∀ {s t : St}, SameS s t → s.length = t.length
  | _, _, .nil => rfl
  | _, _, .cons _ r => by simp [SameS.len r]
theorem SameS.get : ∀ {s t : St}, SameS s t → ∀ (l : Nat) (B0 : Blk), s[l]? = some B0 → ∃ B, t[l]? = some B ∧ Same1 B0 B
  | _, _, .nil, l, B0, h => by simp at h
  | _, _, .cons h _, 0, B0, e => by simp at e; subst e; exact ⟨_, rfl, h⟩
  | _, _, .cons _ r, l + 1, B0, e => by obtain ⟨B, e1, e2⟩ := SameS.get r l B0 (by simpa using e); exact ⟨B, by simpa using e1, e2⟩
theorem SameS.get' : ∀ {s t : St}, SameS s t → ∀ (l : Nat) (B : Blk), t[l]? = some B → ∃ B0, s[l]? = some B0 ∧ Same1 B0 B
  | _, _, .nil, l, B0, h => by simp at h
  | _, _, .cons h _, 0, B0, e => by simp at e; subst e; exact ⟨_, rfl, h⟩
  | _, _, .cons _ r, l + 1, B0, e => by obtain ⟨B, e1, e2⟩ := SameS.get' r l B0 (by simpa using e); exact ⟨B, by simpa using e1, e2⟩
theorem Same1.own {B0 B : Blk} (h : Same1 B0 B) {φ : Phi} {l b k : Nat} : own φ l B0 b k ↔ own φ l B b k := by
  rcases h with rfl | ⟨sz, n, g0, g, rfl, rfl, _⟩
  · exact Iff.rfl
  · exact Iff.rfl
theorem Same1.ok {B0 B : Blk} (h : Same1 B0 B) {R : Nat → Prop} {φ : Phi} {W : World} {l : Nat} (hb : BlkOk R φ W l B) : BlkOk R φ W l B0 := by
  rcases h with rfl | ⟨sz, n, g0, g, rfl, rfl, hg⟩
  · exact hb
  · obtain ⟨h1, h2, h3, h4⟩ := hb
    refine ⟨h1, h2, fun k hk => by rw [hg k hk]; exact h3 k hk, ?_⟩
    rcases h4 with h4 | ⟨b, o, e, fr, h5⟩
    · exact .inl h4
    · exact .inr ⟨b, o, e, fr, fun k j u hk hu => h5 k j u hk (by rw [← hg k hk]; exact hu)⟩
theorem SameS.sim {s t : St} (h : SameS s t) {R : Nat → Prop} {φ : Phi} {W : World} (hs : Sim R φ t W) : Sim R φ s W := by
  refine ⟨fun l B0 e => ?_, fun l l' B0 B0' hne e e' b k k' w w' => ?_, fun l B0 e b k w => ?_, hs.old, fun l hl => hs.dom l (by rw [← h.len]; exact hl)⟩
  · obtain ⟨B, e1, e2⟩ := h.get l B0 e
    exact e2.ok (hs.blk l B e1)
  · obtain ⟨B, e1, e2⟩ := h.get l B0 e
    obtain ⟨B', e1', e2'⟩ := h.get l' B0' e'
    exact hs.sep l l' B B' hne e1 e1' b k k' (e2.own.1 w) (e2'.own.1 w')
  · obtain ⟨B, e1, e2⟩ := h.get l B0 e
    exact hs.ro l B e1 b k (e2.own.1 w)
theorem SameS.owned {s t : St} (h : SameS s t) {φ : Phi} {b k : Nat} : Owned φ s b k ↔ Owned φ t b k := by
  constructor
  · rintro ⟨l, B0, e, w⟩
    obtain ⟨B, e1, e2⟩ := h.get l B0 e
    exact ⟨l, B, e1, e2.own.1 w⟩
  · rintro ⟨l, B, e, w⟩
    obtain ⟨B0, e1, e2⟩ := h.get' l B e
    exact ⟨l, B0, e1, e2.own.2 w⟩
theorem SameS.turn {s t : St} (h : SameS s t) {R R' : Nat → Prop} {φ φ' : Phi} {W W' : World} {σ' : St} (T : Turn R φ s W R' φ' σ' W') : Turn R φ t W R' φ' σ' W' where
  hR := T.hR
  hR' b hb := by
    rcases T.hR' b hb with h1 | h1 | ⟨k, h1⟩
    · exact .inl h1
    · exact .inr (.inl h1)
    · exact .inr (.inr ⟨k, h.owned.1 h1⟩)
  ext := T.ext
  sim := T.sim
  reg b k hw := by
    rcases T.reg b k hw with h1 | h1
    · exact .inl (h.owned.1 h1)
    · exact .inr h1
  keep := T.keep.mono fun b k hw => h.owned.1 hw
theorem localCtr_can {P : Program} {X : Cx} (hX : CxOk P X) {g : Nat} {fn : Func} (hg : P.funcs[g]? = some fn) (hnm : (fn.name == "runtime.NumGoroutine") = false) (hc : fn.body = some (bodyOf fn)) {G : List AV → St → Option (Bool × AV × St)}
    (hG : ∀ args σ u σ', G args σ = some (true, u, σ') → ∃ σ0, SameS σ0 σ ∧ runF X fn args σ0 u σ') : CtrOk P g (localCtr G) := by
  refine ⟨⟨fn, hg, hnm, by rw [hc]; rfl⟩, ?_⟩
  intro args σ u σ' h R φ W hs vals hv
  unfold localCtr at h
  rw [normL_eq] at h
  generalize reach σ 64 (args.flatMap rootsAV) [] = ρ at h
  split at h
  case h_2 => cases h
  rename_i bs hbs
  split at h
  case h_2 => cases h
  rename_i c u0 σl hG0
  split at h
  case h_2 => cases h
  rename_i hcond
  simp only [Option.some.injEq, Prod.mk.injEq] at h
  obtain ⟨rfl, rfl, rfl⟩ := h
  simp only [Bool.and_eq_true] at hcond
  have hnd := nodupB_spec hcond.1
  have hle := Nat.le_of_ble_eq_true hcond.2
  obtain ⟨hbl, hbg⟩ := gath_get hbs
  have hlt : ∀ m ∈ ρ, m < σ.length := fun m hm => by
    obtain ⟨k, hk⟩ := List.getElem?_of_mem hm
    obtain ⟨B, e, _⟩ := hbg k m hk
    exact lt_of_get? e
  have hren : ∀ {k m : Nat}, ρ[k]? = some m → ren ρ φ k = φ m := fun h => by simp only [ren, h]
  have hto : ∀ l k p, idxOf ρ l = some k → φ l = some p → ren ρ φ k = some p := fun l k p h1 h2 => by rw [hren (idxOf_some h1)]; exact h2
  have hcalm0 : Calm R W W := fun _ _ _ _ h => h
  have hbk : ∀ (k : Nat) (B : Blk), (bs.map (reB (idxOf ρ)))[k]? = some B → ∃ m B0, ρ[k]? = some m ∧ σ[m]? = some B0 ∧ B = reB (idxOf ρ) B0 := fun k B hB => by
    obtain ⟨B0, h1, h2⟩ := getElem?_map_some hB
    have hk : k < ρ.length := by rw [← hbl]; exact lt_of_get? h1
    obtain ⟨m, hm⟩ := get?_of_lt hk
    obtain ⟨B1, e1, e2⟩ := hbg k m hm
    rw [h1] at e2
    obtain rfl := Option.some.inj e2
    exact ⟨m, B0, hm, e1, h2.symm⟩
  have hloc : ∀ b k, Owned (ren ρ φ) (bs.map (reB (idxOf ρ))) b k → ∃ m B, m ∈ ρ ∧ σ[m]? = some B ∧ own φ m B b k := fun b k ⟨l, B, e, hw⟩ => by
    obtain ⟨m, B0, h1, h2, rfl⟩ := hbk l B e
    exact ⟨m, B0, List.mem_of_getElem? h1, h2, reB_own (hren h1).symm hw⟩
  have hsl : Sim R (ren ρ φ) (bs.map (reB (idxOf ρ))) W := by
    refine ⟨fun l B e => ?_, fun l l' B B' hne e e' b k k' w w' => ?_, fun l B e b k w => ?_, hs.old, fun l hl => ?_⟩
    · obtain ⟨m, B0, h1, h2, rfl⟩ := hbk l B e
      exact reB_ok (fun _ h => h) (Keep.refl (fun _ _ => False) W) hcalm0 hto (idxOf_of hnd h1) (hs.blk m B0 h2) fun _ _ _ h => h
    · obtain ⟨m, B0, h1, h2, rfl⟩ := hbk l B e
      obtain ⟨m', B0', h1', h2', rfl⟩ := hbk l' B' e'
      refine hs.sep m m' B0 B0' (fun he => hne ?_) h2 h2' b k k' (reB_own (hren h1).symm w) (reB_own (hren h1').symm w')
      subst he
      have e1 := idxOf_of hnd h1
      rw [idxOf_of hnd h1'] at e1
      exact (Option.some.inj e1).symm
    · obtain ⟨m, B0, h1, h2, rfl⟩ := hbk l B e
      exact hs.ro m B0 h2 b k (reB_own (hren h1).symm w)
    · have : ρ[l]? = none := List.getElem?_eq_none (by rw [← hbl]; simpa using hl)
      simp only [ren, this]
  obtain ⟨σc, hsc, hrun⟩ := hG _ _ _ _ hG0
  refine (runF_ok hX hg hnm hc hrun (hsc.sim hsl) (reAVs_ok (fun _ h => h) hcalm0 (fun _ => Nat.le_refl _) hto hv)).mono ?_
  rintro e W' ⟨v, R', φl, rfl, T, hv'⟩
  replace T := hsc.turn T
  obtain ⟨φ', hφ'⟩ : ∃ φ' : Phi, φ' = fun l => match idxOf ρ l with | some k => φl k | none => if l < σ.length then φ l else φl (ρ.length + (l - σ.length)) := ⟨_, rfl⟩
  have hx : Ext φ φ' := fun l p hp => by
    rw [hφ']
    dsimp only
    cases hi : idxOf ρ l with
    | some k => exact T.ext _ _ (hto l k p hi hp)
    | none =>
      have : l < σ.length := by
        rcases Nat.lt_or_ge l σ.length with h | h
        · exact h
        · rw [hs.dom l h] at hp; cases hp
      simp only [this, if_true]; exact hp
  have hback : ∀ k m, back ρ σ.length k = some m → φ' m = φl k := fun k m hb => by
    unfold back at hb
    rw [hφ']
    dsimp only
    split at hb
    · rename_i m' hm
      obtain rfl := Option.some.inj hb
      rw [idxOf_of hnd hm]
    · rename_i hm
      obtain rfl := Option.some.inj hb
      have hk : ρ.length ≤ k := List.getElem?_eq_none_iff.1 hm
      have : idxOf ρ (σ.length + (k - ρ.length)) = none := by
        cases hi : idxOf ρ (σ.length + (k - ρ.length)) with
        | none => rfl
        | some j => have := hlt _ (List.mem_of_getElem? (idxOf_some hi)); omega
      rw [this]
      dsimp only
      rw [if_neg (by omega)]
      congr 1
      omega
  have hfro : ∀ l k p, back ρ σ.length l = some k → φl l = some p → φ' k = some p := fun l k p h1 h2 => by rw [hback l k h1]; exact h2
  have hcalm : Calm R' W' W' := fun _ _ _ _ h => h
  have hget : ∀ (m : Nat) (B : Blk), (setAll σ ρ (σl.map (reB (back ρ σ.length))) ++ (σl.map (reB (back ρ σ.length))).drop ρ.length)[m]? = some B →
      (∃ k B0, back ρ σ.length k = some m ∧ σl[k]? = some B0 ∧ B = reB (back ρ σ.length) B0) ∨ (m ∉ ρ ∧ σ[m]? = some B ∧ φ' m = φ m) := fun m B hB => by
    rw [List.getElem?_append] at hB
    rw [setAll_len] at hB
    split at hB
    · rename_i hm
      cases hi : idxOf ρ m with
      | some k =>
        have hk := idxOf_some hi
        rw [setAll_at ρ _ σ hnd (by simpa using hle) hlt k m hk] at hB
        obtain ⟨B0, h1, h2⟩ := getElem?_map_some hB
        exact .inl ⟨k, B0, by unfold back; rw [hk], h1, h2.symm⟩
      | none =>
        have hk := idxOf_none hi
        rw [setAll_other ρ _ σ m hk] at hB
        refine .inr ⟨hk, hB, ?_⟩
        rw [hφ']
        dsimp only
        rw [hi]
        dsimp only
        rw [if_pos hm]
    · rename_i hm
      rw [List.getElem?_drop] at hB
      obtain ⟨B0, h1, h2⟩ := getElem?_map_some hB
      refine .inl ⟨_, B0, ?_, h1, h2.symm⟩
      unfold back
      rw [List.getElem?_eq_none (by omega)]
      dsimp only
      congr 1
      omega
  have hown : ∀ {k m : Nat} {B0 : Blk} {b j : Nat}, back ρ σ.length k = some m → own φ' m (reB (back ρ σ.length) B0) b j → own φl k B0 b j := fun h1 h2 => reB_own (hback _ _ h1).symm h2
  have hother : ∀ {m : Nat} {B : Blk} {b k : Nat}, m ∉ ρ → σ[m]? = some B → own φ m B b k → ∀ k', ¬ Owned (ren ρ φ) (bs.map (reB (idxOf ρ))) b k' := fun h1 h2 h3 k' h4 => by
    obtain ⟨m', B', e1, e2, e3⟩ := hloc _ _ h4
    exact hs.sep _ m' _ B' (fun he => h1 (by rw [he]; exact e1)) h2 e2 _ _ k' h3 e3
  have hsim : Sim R' φ' (setAll σ ρ (σl.map (reB (back ρ σ.length))) ++ (σl.map (reB (back ρ σ.length))).drop ρ.length) W' := by
    refine ⟨fun l B e => ?_, fun l l' B B' hne e e' b k k' w w' => ?_, fun l B e b k w hR => ?_, T.sim.old, fun l hl => ?_⟩
    · rcases hget l B e with ⟨k, B0, h1, h2, rfl⟩ | ⟨h1, h2, h3⟩
      · exact reB_ok (fun _ h => h) (Keep.refl (fun _ _ => False) W') hcalm hfro h1 (T.sim.blk k B0 h2) fun _ _ _ h => h
      · exact (hs.blk l B h2).kept T.keep T.hR (fun b k hw => hsl.notR b k hw) (fun b k hw => hother h1 h2 hw k) hx (fun e => h3.trans e)
    · rcases hget l B e with ⟨j, B0, h1, h2, rfl⟩ | ⟨h1, h2, h3⟩
      · have w1 := hown h1 w
        rcases hget l' B' e' with ⟨j', B0', h1', h2', rfl⟩ | ⟨h1', h2', h3'⟩
        · refine T.sim.sep j j' B0 B0' (fun he => hne ?_) h2 h2' b k k' w1 (hown h1' w')
          subst he
          rw [h1] at h1'
          exact Option.some.inj h1'
        · have w2 := (own_ext h3').1 w'
          rcases T.reg b k ⟨j, B0, h2, w1⟩ with h | h
          · exact hother h1' h2' w2 k h
          · have := (hs.blk l' B' h2').owned w2; omega
      · have w1 := (own_ext h3).1 w
        rcases hget l' B' e' with ⟨j', B0', h1', h2', rfl⟩ | ⟨h1', h2', h3'⟩
        · have w2 := hown h1' w'
          rcases T.reg b k' ⟨j', B0', h2', w2⟩ with h | h
          · exact hother h1 h2 w1 k' h
          · have := (hs.blk l B h2).owned w1; omega
        · exact hs.sep l l' B B' hne h2 h2' b k k' w1 ((own_ext h3').1 w')
    · rcases hget l B e with ⟨j, B0, h1, h2, rfl⟩ | ⟨h1, h2, h3⟩
      · exact T.sim.ro j B0 h2 b k (hown h1 w) hR
      · have w1 := (own_ext h3).1 w
        rcases T.hR' b hR with h | h | ⟨k', h⟩
        · exact hs.ro l B h2 b k w1 h
        · have := (hs.blk l B h2).owned w1; omega
        · exact hother h1 h2 w1 k' h
    · simp only [List.length_append, setAll_len, List.length_drop, List.length_map] at hl
      rw [hφ']
      dsimp only
      have : idxOf ρ l = none := by
        cases hi : idxOf ρ l with
        | none => rfl
        | some j => have := hlt _ (List.mem_of_getElem? (idxOf_some hi)); omega
      rw [this]
      dsimp only
      rw [if_neg (by omega)]
      exact T.sim.dom _ (by omega)
  have hsub : ∀ b k, Owned (ren ρ φ) (bs.map (reB (idxOf ρ))) b k → Owned φ σ b k := fun b k hw => by
    obtain ⟨m, B, _, e2, e3⟩ := hloc b k hw
    exact ⟨m, B, e2, e3⟩
  refine ⟨v, R', φ', rfl, ⟨T.hR, fun b hb => ?_, hx, hsim, fun b k ⟨l, B, e, w⟩ => ?_, T.keep.mono hsub⟩, reAV_ok (fun _ h => h) hcalm (fun _ => Nat.le_refl _) hfro hv'⟩
  · rcases T.hR' b hb with h | h | ⟨k, h⟩
    · exact .inl h
    · exact .inr (.inl h)
    · exact .inr (.inr ⟨k, hsub b k h⟩)
  · rcases hget l B e with ⟨j, B0, h1, h2, rfl⟩ | ⟨h1, h2, h3⟩
    · rcases T.reg b k ⟨j, B0, h2, hown h1 w⟩ with h | h
      · exact .inl (hsub b k h)
      · exact .inr h
    · exact .inl ⟨l, B, h2, (own_ext h3).1 w⟩

theorem localCtr_ok {P : Program} {X : Cx} (hX : CxOk P X) {g : Nat} {fn : Func} (hg : P.funcs[g]? = some fn) (hnm : (fn.name == "runtime.NumGoroutine") = false) (hc : fn.body = some (bodyOf fn)) {G : List AV → St → Option (Bool × AV × St)}
    (hG : ∀ args σ u σ', G args σ = some (true, u, σ') → runF X fn args σ u σ') : CtrOk P g (localCtr G) :=
  localCtr_can hX hg hnm hc fun args σ u σ' h => ⟨σ, SameS.refl σ, hG args σ u σ' h⟩

theorem rootsB_congr {σ σ₂ : St} {l : Nat} (h : σ₂[l]? = σ[l]?) : rootsB σ₂[l]? = rootsB σ[l]? := by rw [h]
theorem reach_acc : ∀ {σ : St} (n : Nat) (todo acc : List Nat) (m : Nat), m ∈ acc → m ∈ reach σ n todo acc
  | σ, 0, todo, acc, m, h => h
  | σ, n + 1, [], acc, m, h => h
  | σ, n + 1, l :: todo, acc, m, h => by
    simp only [reach]
    split
    · exact reach_acc n todo acc m h
    · exact reach_acc n _ _ m (List.mem_append_left _ h)
theorem reach_congr : ∀ {σ σ₂ : St} (n : Nat) (todo acc : List Nat), (∀ m ∈ reach σ n todo acc, σ₂[m]? = σ[m]?) → reach σ₂ n todo acc = reach σ n todo acc
  | σ, σ₂, 0, todo, acc, h => rfl
  | σ, σ₂, n + 1, [], acc, h => rfl
  | σ, σ₂, n + 1, l :: todo, acc, h => by
    simp only [reach] at h ⊢
    split
    · rename_i hm
      simp only [hm] at h
      exact reach_congr n todo acc h
    · rename_i hm
      simp only [hm] at h
      have hl := h l (reach_acc n _ _ l (List.mem_append_right _ (List.mem_singleton_self l)))
      rw [hl]
      exact reach_congr n _ _ h
theorem gath_congr {σ σ₂ : St} : ∀ {ρ : List Nat}, (∀ m ∈ ρ, σ₂[m]? = σ[m]?) → gath σ₂ ρ = gath σ ρ
  | [], _ => rfl
  | l :: ρ, h => by
    simp only [gath]
    rw [h l (List.mem_cons_self), gath_congr fun m hm => h m (List.mem_cons_of_mem _ hm)]
theorem localCtr_foot (G : List AV → St → Option (Bool × AV × St)) : CtrFoot footL (localCtr G) := by
  intro args σ c u σ' h
  unfold localCtr at h ⊢
  simp only [normL_eq] at h ⊢
  show _ ∧ _ ∧ _ ∧ ∀ σ₂ : St, σ₂.length = σ.length → (∀ m ∈ reach σ 64 (args.flatMap rootsAV) [], σ₂[m]? = σ[m]?) → reach σ₂ 64 (args.flatMap rootsAV) [] = reach σ 64 (args.flatMap rootsAV) [] ∧ _
  unfold footL
  generalize hρ : reach σ 64 (args.flatMap rootsAV) [] = ρ at h ⊢
  split at h
  case h_2 => cases h
  rename_i bs hbs
  split at h
  case h_2 => cases h
  rename_i c0 u0 σl hG
  split at h
  case h_2 => cases h
  rename_i hcond
  simp only [Option.some.injEq, Prod.mk.injEq] at h
  obtain ⟨rfl, rfl, rfl⟩ := h
  have hcond' := hcond
  simp only [Bool.and_eq_true] at hcond'
  have hnd := nodupB_spec hcond'.1
  have hle := Nat.le_of_ble_eq_true hcond'.2
  obtain ⟨hbl, hbg⟩ := gath_get hbs
  have hlt : ∀ m ∈ ρ, m < σ.length := fun m hm => by
    obtain ⟨k, hk⟩ := List.getElem?_of_mem hm
    obtain ⟨B, e, _⟩ := hbg k m hk
    exact lt_of_get? e
  refine ⟨hlt, by simp [setAll_len], fun m hm hn => ?_, fun σ₂ hn hg => ?_⟩
  · rw [List.getElem?_append_left (by rw [setAll_len]; exact hm), setAll_other ρ _ σ m hn]
  · have hr : reach σ₂ 64 (args.flatMap rootsAV) [] = ρ := by rw [← hρ]; exact reach_congr _ _ _ (by rw [hρ]; exact hg)
    refine ⟨hr, ?_⟩
    simp only [hr, gath_congr hg, hbs, hG, hcond, hn]
    refine ⟨_, rfl, by simp [setAll_len, hn], fun m hm hnm => ?_, fun m hm => ?_⟩
    · rw [List.getElem?_append_left (by rw [setAll_len]; omega), setAll_other ρ _ σ₂ m hnm]
    · rcases hm with hm | hm
      · have hmlt := hlt m hm
        obtain ⟨k, hk⟩ := List.getElem?_of_mem hm
        rw [List.getElem?_append_left (by rw [setAll_len]; omega), List.getElem?_append_left (by rw [setAll_len]; exact hmlt), setAll_at ρ _ σ₂ hnd (by simpa using hle) (fun x hx => by rw [hn]; exact hlt x hx) k m hk, setAll_at ρ _ σ hnd (by simpa using hle) hlt k m hk]
      · rw [List.getElem?_append_right (by rw [setAll_len]; omega), List.getElem?_append_right (by rw [setAll_len]; exact hm), setAll_len, setAll_len, hn]
end Go.Proofs.Ythdeehkmlaejfaa.E
