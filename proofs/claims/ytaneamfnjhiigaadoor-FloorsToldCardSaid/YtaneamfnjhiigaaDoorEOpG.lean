/- The engine, part 9: cells that are written. -/
import Derived.Test.YtaneamfnjhiigaaDoorEOpF
namespace Go.Proofs.YtaneamfnjhiigaaDoor.E
open Go
set_option linter.unusedSimpArgs false
set_option linter.unusedVariables false

def okCell : AV → Bool
  | .v x => scal x
  | .p _ _ => true
  | .q _ _ _ _ => true
  | .s _ _ _ _ => true
  | .i _ _ _ => true
  | .ip _ _ => true
  | .f _ _ _ => true
  | .y _ => true
  | .z => true
  | _ => false
def pureCell : AV → Bool
  | .v x => scal x
  | .i _ _ _ => true
  | .ip _ _ => true
  | .z => true
  | _ => false

theorem okCell_ok {R : Nat → Prop} {φ : Phi} {W : World} {u : AV} {x : Value} (h : VR R φ W u x) (ho : okCell u = true) : scal x = true := by
  cases h with
  | imm hi => cases hi <;> first | rfl | exact ho | cases ho
  | a => cases ho
  | t => cases ho
  | dead => cases ho
  | _ => rfl
theorem pureCell_ok {R : Nat → Prop} {φ : Phi} {W : World} {u : AV} {x : Value} (h : VR R φ W u x) (ho : pureCell u = true) : CR R W u x := by
  cases h with
  | imm hi => exact ⟨hi, by cases hi <;> first | rfl | exact ho | cases ho⟩
  | _ => cases ho

theorem Keep.setCell {W : World} {b o : Nat} (v : Value) : Keep (fun b' k' => b' = b ∧ k' = o) W (W.setCell ⟨b, o, none⟩ v) where
  os := rfl
  tape := rfl
  output := rfl
  size := by simp
  obj b' hb hn := by
    have : b ≠ b' := fun e => hn o ⟨e.symm, rfl⟩
    simp only [World.setCell, Array.getElem?_modify]
    rw [if_neg this]
  cells b' c T fr hc := by
    by_cases hb : b = b'
    · subst hb
      refine ⟨c.setIfInBounds o v, by simp [World.setCell, Array.getElem?_modify, hc], by simp, fun k hk => ?_⟩
      have : o ≠ k := fun e => hk ⟨rfl, e.symm⟩
      rw [Array.getElem?_setIfInBounds_ne this]
    · refine ⟨c, ?_, rfl, fun _ _ => rfl⟩
      simp only [World.setCell, Array.getElem?_modify]
      rw [if_neg hb]; exact hc
  loops b' r hr := by
    refine ⟨r.state, r.pending, ?_⟩
    simp only [World.setCell, Array.getElem?_modify, hr]
    split <;> rfl

theorem run_store {P : Program} {W : World} {b o : Nat} {x v : Value} (hs : scal v = true) (hc : W.cell? ⟨b, o, none⟩ = some x) (hf : Free W b) : (store ⟨b, o, none⟩ v).run P W = .ok () (W.setCell ⟨b, o, none⟩ v) := by
  have hz := hf.frozen o
  cases v <;> first | (simp only [store, Sem.run, hc, hz]; rfl) | (simp [scal] at hs)

theorem run_storeCells {P : Program} {b o : Nat} : ∀ (vs : List Value) (i : Nat) (W : World), (∀ x ∈ vs, scal x = true) → (∀ k, k < vs.length → ∃ x, W.cell? ⟨b, o + (i + k), none⟩ = some x) → Free W b →
    ∃ W', (storeCells ⟨b, o, none⟩ vs i).run P W = .ok () W' ∧ Keep (fun b' k' => b' = b ∧ o + i ≤ k' ∧ k' < o + i + vs.length) W W' ∧ ∀ (k : Nat) (x : Value), vs[k]? = some x → W'.cell? ⟨b, o + (i + k), none⟩ = some x := by
  intro vs
  induction vs with
  | nil => intro i W _ _ _; exact ⟨W, by simp [storeCells], Keep.refl _ _, fun k x hx => by simp at hx⟩
  | cons v vs ih =>
    intro i W hs hc hf
    obtain ⟨x0, hx0⟩ := hc 0 (by simp)
    have k0 : Keep (fun b' k' => b' = b ∧ k' = o + (i + 0)) W (W.setCell ⟨b, o + (i + 0), none⟩ v) := Keep.setCell v
    obtain ⟨W', h1, h2, h3⟩ := ih (i + 1) (W.setCell ⟨b, o + (i + 0), none⟩ v) (fun x hx => hs x (List.mem_cons_of_mem _ hx)) (fun k hk => by
      obtain ⟨x, hx⟩ := hc (k + 1) (by simpa using hk)
      exact ⟨x, k0.cell (by rintro ⟨_, e⟩; omega) (by rw [show o + (i + 1 + k) = o + (i + (k + 1)) by omega]; exact hx)⟩) (hf.keep k0)
    refine ⟨W', ?_, ?_, ?_⟩
    · simp only [storeCells, Sem.run_bind, add_none]
      rw [show o + i = o + (i + 0) by omega, run_store (hs v (List.mem_cons_self)) hx0 hf]
      exact h1
    · refine (k0.mono (G := fun b' k' => b' = b ∧ o + i ≤ k' ∧ k' < o + i + (v :: vs).length) ?_).trans h2 ?_
      · rintro b' k' ⟨rfl, rfl⟩; exact ⟨rfl, by omega, by simp⟩
      · rintro b' k' ⟨rfl, e1, e2⟩; exact .inl ⟨rfl, by omega, by simp; omega⟩
    · intro k x hx
      cases k with
      | zero =>
        simp at hx; subst hx
        exact h2.cell (by rintro ⟨_, e1, _⟩; omega) (World.cell?_setCell_same (h := hx0) ..)
      | succ k =>
        have := h3 k x (by simpa using hx)
        rw [show o + (i + (k + 1)) = o + (i + 1 + k) by omega]; exact this

/-- A cell is written, or some side by side. -/
def putCells (cells : List AV) (off : Nat) (cs : List AV) : List AV := cells.take off ++ cs ++ cells.drop (off + cs.length)
theorem putCells_length {cells cs : List AV} {off : Nat} (h : off + cs.length ≤ cells.length) : (putCells cells off cs).length = cells.length := by simp [putCells]; omega
theorem putCells_get {cells cs : List AV} {off : Nat} (h : off + cs.length ≤ cells.length) (k : Nat) : (putCells cells off cs)[k]? = if off ≤ k ∧ k < off + cs.length then cs[k - off]? else cells[k]? := by
  unfold putCells
  rw [List.append_assoc, List.getElem?_append, List.getElem?_append]
  have e1 : (cells.take off).length = off := by simp; omega
  rw [e1]
  by_cases h1 : k < off
  · rw [if_pos h1, if_neg (by omega), List.getElem?_take, if_pos h1]
  · rw [if_neg h1]
    by_cases h2 : k - off < cs.length
    · rw [if_pos h2, if_pos (by omega)]
    · rw [if_neg h2, if_neg (by omega), List.getElem?_drop]
      congr 1; omega

/-- The elements of cells that stand in a row. -/
def cut (sz : Nat) (cs : List AV) : Nat → List AV := fun k => (cs.drop (k * sz)).take sz

theorem cut_len {sz n : Nat} {cs : List AV} (h : cs.length = n * sz) : ∀ k, k < n → (cut sz cs k).length = sz := by
  intro k hk
  have : (k + 1) * sz ≤ n * sz := Nat.mul_le_mul_right _ hk
  rw [Nat.succ_mul] at this
  simp [cut]; omega
theorem cut_get {sz : Nat} {cs : List AV} {k j : Nat} {u : AV} (h : (cut sz cs k)[j]? = some u) : cs[k * sz + j]? = some u := by
  unfold cut at h
  rw [List.getElem?_take] at h
  split at h
  · rw [List.getElem?_drop] at h; exact h
  · cases h

def aStore0 (tt : List TE) (t : Nat) (x y : AV) (σ : St) : Option (Bool × St) :=
  match look tt t, cellsOf y with
  | some e, some cs =>
    match Nat.beq cs.length e.size with
    | false => none
    | true =>
      match x with
      | .p l off => match σ[l]? with
        | some (.lit cells) => match cs.all okCell, Nat.ble (off + cs.length) cells.length with
          | true, true => some (true, σ.set l (.lit (putCells cells off cs)))
          | _, _ => none
        | some (.tab sz n get) => match cs.all pureCell, Nat.beq off 0, Nat.beq cs.length (n * sz) with
          | true, true, true => some (true, σ.set l (.tab sz n (cut sz cs)))
          | _, _, _ => none
        | _ => none
      | .q l sz i j => match σ[l]? with
        | some (.tab sz' n get) => match cs.all pureCell, Nat.beq sz sz', Nat.ble (j + cs.length) sz with
          | true, true, true => some (decide (i < n), σ.set l (.tab sz n fun k => if k = i then putCells (get k) j cs else get k))
          | _, _, _ => none
        | _ => none
      | _ => none
  | _, _ => none

theorem set_get {α : Type} {l : List α} {i m : Nat} {x y : α} (h : (l.set i x)[m]? = some y) (hm : m ≠ i) : l[m]? = some y := by
  rwa [List.getElem?_set_ne (Ne.symm hm)] at h
theorem set_get_self {α : Type} {l : List α} {i : Nat} {x y : α} (h : (l.set i x)[i]? = some y) : y = x := by
  rw [List.getElem?_set] at h
  simp at h
  exact h.2.symm

theorem aStore0_ok {P : Program} {tt : List TE} (ht : TTok P tt) {F0 : Nat → Nat → Prop} {W0 : World} {R : Nat → Prop} {φ : Phi} {σ : St} {f : List AV} {tmps : Array Value} {W : World} (h : Rel F0 W0 R φ σ f tmps W)
    {t : Nat} {x y : AV} {v w : Value} (hx : VR R φ W x v) (hy : VR R φ W y w) {c : Bool} {σ' : St} (ha : aStore0 tt t x y σ = some (c, σ')) (hc : c = true) :
    ∃ W', (Instr.storeAt t v w).run P W = .ok () W' ∧ Rel F0 W0 R φ σ' f tmps W' := by
  unfold aStore0 at ha
  split at ha
  · rename_i e cs he hcs
    cases hsz : Nat.beq cs.length e.size with
    | false => simp [hsz] at ha
    | true =>
      simp only [hsz] at ha
      have hsz := Nat.eq_of_beq_eq_true hsz
      obtain ⟨vs, hvs, hl, hr⟩ := cellsOf_ok hy hcs
      have hrun : ∀ (b o : Nat) (W' : World), (storeCells ⟨b, o, none⟩ vs).run P W = .ok () W' → (Instr.storeAt t (.pointer (some ⟨b, o, none⟩)) w).run P W = .ok () W' := by
        intro b o W' h1
        unfold Instr.storeAt storeVar
        have : w.cells.size = e.size := by rw [← hsz, hl, ← hvs]; simp
        simp only [Instr.sureAddr, Sem.run_bind, Sem.run_pure, Result.andThen_ok, run_sizeOf ht he, this, ne_eq, not_true_eq_false, if_false, hvs]
        exact h1
      split at ha
      · rename_i l off
        split at ha
        · rename_i cells hl0
          split at ha
          · rename_i hall hle
            obtain ⟨rfl, rfl⟩ := Prod.mk.inj (Option.some.inj ha)
            have hle := Nat.le_of_ble_eq_true hle
            have hb := h.sim.blk l _ hl0
            cases hx with
            | imm hi => cases hi
            | p hφ =>
              rename_i b o
              obtain ⟨b', o', e2, hfree, hcell⟩ := hb
              rw [hφ] at e2; obtain ⟨rfl, rfl⟩ := Prod.mk.inj (Option.some.inj (Option.some.inj e2))
              have hscal : ∀ x ∈ vs, scal x = true := by
                intro x hx
                obtain ⟨k, hk⟩ := List.getElem?_of_mem hx
                have hk' : k < cs.length := by
                  rcases Nat.lt_or_ge k cs.length with h1 | h1
                  · exact h1
                  · rw [List.getElem?_eq_none (by omega)] at hk; cases hk
                exact okCell_ok (hr k _ x (List.getElem?_eq_getElem hk') hk) (List.all_eq_true.1 hall _ (List.getElem_mem hk'))
              obtain ⟨W', h1, h2, h3⟩ := run_storeCells (P := P) (b := b) (o := o + off) vs 0 W hscal (fun k hk => by
                have hk' : off + k < cells.length := by omega
                obtain ⟨x, hx, _⟩ := hcell (off + k) _ (List.getElem?_eq_getElem hk')
                exact ⟨x, by rw [show o + off + (0 + k) = o + (off + k) by omega]; exact hx⟩) hfree
              refine ⟨W', hrun b (o + off) W' h1, ?_⟩
              have hcalm := h2.calm (R := R) (fun b' k' hg hR => by
                obtain ⟨rfl, g1, g2⟩ := hg
                exact h.sim.ro l _ hl0 b' k' ⟨o, hφ, by omega, by omega⟩ hR)
              have := Rel.turn h (l := l) (src := l) (B' := .lit (putCells cells off cs)) (σ' := σ.set l (.lit (putCells cells off cs))) h2 (Ext.refl _) (fun _ _ h => h)
                (fun b' k' hg => ⟨_, hl0, by obtain ⟨rfl, g1, g2⟩ := hg; exact ⟨o, hφ, by omega, by omega⟩⟩)
                ⟨b, o, hφ, hfree.keep h2, fun k u hu => by
                  rw [putCells_get hle] at hu
                  split at hu
                  · rename_i hk
                    obtain ⟨x, hx⟩ := vs_get hl hu
                    refine ⟨x, ?_, (hr _ u x hu hx).mono (fun _ hb => hb) hcalm h2.room_le (Ext.refl _)⟩
                    have := h3 _ x hx
                    rw [show o + k = o + off + (0 + (k - off)) by omega]; exact this
                  · rename_i hk
                    obtain ⟨x, hx, hv⟩ := hcell k u hu
                    refine ⟨x, h2.cell (by rintro ⟨_, g1, g2⟩; omega) hx, hv.mono (fun _ hb => hb) hcalm h2.room_le (Ext.refl _)⟩⟩
                (fun b' k' hw => .inl ⟨_, hl0, by obtain ⟨o', g1, g2, g3⟩ := hw; rw [putCells_length hle] at g3; exact ⟨o', g1, g2, g3⟩⟩)
                (fun m B hm => by
                  by_cases hne : m = l
                  · subst hne; exact .inl ⟨rfl, set_get_self hm⟩
                  · exact .inr (.inr ⟨hne, hne, set_get hm hne⟩)) (fun m hm => h.sim.dom m (by simpa using hm))
              exact this
          · cases ha
        · rename_i sz n get hl0
          split at ha
          · rename_i hall h0 hlen'
            obtain ⟨rfl, rfl⟩ := Prod.mk.inj (Option.some.inj ha)
            obtain rfl := Nat.eq_of_beq_eq_true h0
            have hlen' := Nat.eq_of_beq_eq_true hlen'
            have hb := h.sim.blk l _ hl0
            cases hx with
            | imm hi => cases hi
            | p hφ =>
              rename_i b o
              obtain ⟨hz0, hm, hlen, hb⟩ := hb
              rcases hb with ⟨e2, _⟩ | ⟨b', o', e2, hfree, hcell⟩
              · rw [hφ] at e2; cases e2
              rw [hφ] at e2; obtain ⟨rfl, rfl⟩ := Prod.mk.inj (Option.some.inj (Option.some.inj e2))
              have hscal : ∀ (k : Nat) (u : AV) (x : Value), cs[k]? = some u → vs[k]? = some x → CR R W u x := fun k u x hu hx =>
                pureCell_ok (hr k u x hu hx) (List.all_eq_true.1 hall _ (List.mem_of_getElem? hu))
              obtain ⟨W', h1, h2, h3⟩ := run_storeCells (P := P) (b := b) (o := o + 0) vs 0 W (fun x hx => by
                obtain ⟨k, hk⟩ := List.getElem?_of_mem hx
                have hk' : k < cs.length := by
                  rcases Nat.lt_or_ge k cs.length with h1 | h1
                  · exact h1
                  · rw [List.getElem?_eq_none (by omega)] at hk; cases hk
                exact (hscal k _ x (List.getElem?_eq_getElem hk') hk).2) (fun k hk => by
                have hk1 : k < n * sz := by omega
                have hq : k / sz < n := (Nat.div_lt_iff_lt_mul hz0).2 hk1
                have hj : k % sz < (get (k / sz)).length := by rw [hlen _ hq]; exact Nat.mod_lt _ hz0
                obtain ⟨x, hx, _⟩ := hcell (k / sz) (k % sz) _ hq (List.getElem?_eq_getElem hj)
                have e : k / sz * sz + k % sz = k := by rw [Nat.mul_comm]; exact Nat.div_add_mod k sz
                rw [e] at hx
                exact ⟨x, by rw [show o + 0 + (0 + k) = o + k by omega]; exact hx⟩) hfree
              refine ⟨W', hrun b _ W' h1, ?_⟩
              have hcalm := h2.calm (R := R) (fun b' k' hg hR => by
                obtain ⟨rfl, g1, g2⟩ := hg
                exact h.sim.ro l _ hl0 b' k' ⟨o, hφ⟩ hR)
              exact Rel.turn h (l := l) (src := l) (B' := .tab sz n (cut sz cs)) (σ' := σ.set l (.tab sz n (cut sz cs))) h2 (Ext.refl _) (fun _ _ h => h)
                (fun b' k' hg => ⟨_, hl0, by obtain ⟨rfl, g1, g2⟩ := hg; exact ⟨o, hφ⟩⟩)
                ⟨hz0, hm, fun k hk => cut_len hlen' k hk, .inr ⟨b, o, hφ, hfree.keep h2, fun k j' u hk hu => by
                  have hu' := cut_get hu
                  obtain ⟨x, hx⟩ := vs_get hl hu'
                  refine ⟨x, ?_, (hscal _ u x hu' hx).mono (fun _ hb => hb) hcalm⟩
                  have := h3 _ x hx
                  rw [show o + (k * sz + j') = o + 0 + (0 + (k * sz + j')) by omega]; exact this⟩⟩
                (fun b' k' hw => .inl ⟨_, hl0, hw⟩)
                (fun m B hm => by
                  by_cases hne : m = l
                  · subst hne; exact .inl ⟨rfl, set_get_self hm⟩
                  · exact .inr (.inr ⟨hne, hne, set_get hm hne⟩)) (fun m hm => h.sim.dom m (by simpa using hm))
          · cases ha
        · cases ha
      · rename_i l sz i j
        split at ha
        · rename_i sz' n get hl0
          split at ha
          · rename_i hall hz hle
            obtain ⟨rfl, rfl⟩ := Prod.mk.inj (Option.some.inj ha)
            obtain rfl := Nat.eq_of_beq_eq_true hz
            have hle := Nat.le_of_ble_eq_true hle
            have hi : i < n := of_decide_eq_true hc
            have hb := h.sim.blk l _ hl0
            cases hx with
            | imm hi => cases hi
            | q hφ =>
              rename_i b o
              obtain ⟨hz0, hm, hlen, hb⟩ := hb
              rcases hb with ⟨e2, _⟩ | ⟨b', o', e2, hfree, hcell⟩
              · rw [hφ] at e2; cases e2
              rw [hφ] at e2; obtain ⟨rfl, rfl⟩ := Prod.mk.inj (Option.some.inj (Option.some.inj e2))
              have hleg : j + cs.length ≤ (get i).length := by rw [hlen i hi]; exact hle
              have hscal : ∀ (k : Nat) (u : AV) (x : Value), cs[k]? = some u → vs[k]? = some x → CR R W u x := fun k u x hu hx =>
                pureCell_ok (hr k u x hu hx) (List.all_eq_true.1 hall _ (List.mem_of_getElem? hu))
              obtain ⟨W', h1, h2, h3⟩ := run_storeCells (P := P) (b := b) (o := o + (i * sz + j)) vs 0 W (fun x hx => by
                obtain ⟨k, hk⟩ := List.getElem?_of_mem hx
                have hk' : k < cs.length := by
                  rcases Nat.lt_or_ge k cs.length with h1 | h1
                  · exact h1
                  · rw [List.getElem?_eq_none (by omega)] at hk; cases hk
                exact (hscal k _ x (List.getElem?_eq_getElem hk') hk).2) (fun k hk => by
                have hk' : j + k < (get i).length := by omega
                obtain ⟨x, hx, _⟩ := hcell i (j + k) _ hi (List.getElem?_eq_getElem hk')
                exact ⟨x, by rw [show o + (i * sz + j) + (0 + k) = o + (i * sz + (j + k)) by omega]; exact hx⟩) hfree
              refine ⟨W', hrun b _ W' h1, ?_⟩
              have hcalm := h2.calm (R := R) (fun b' k' hg hR => by
                obtain ⟨rfl, g1, g2⟩ := hg
                exact h.sim.ro l _ hl0 b' k' ⟨o, hφ⟩ hR)
              have := Rel.turn h (l := l) (src := l) (B' := .tab sz n fun k => if k = i then putCells (get k) j cs else get k) (σ' := σ.set l (.tab sz n fun k => if k = i then putCells (get k) j cs else get k)) h2 (Ext.refl _) (fun _ _ h => h)
                (fun b' k' hg => ⟨_, hl0, by obtain ⟨rfl, g1, g2⟩ := hg; exact ⟨o, hφ⟩⟩)
                ⟨hz0, hm, fun k hk => by
                  dsimp only
                  split
                  · rename_i e; subst e; rw [putCells_length hleg]; exact hlen k hk
                  · exact hlen k hk, .inr ⟨b, o, hφ, hfree.keep h2, fun k j' u hk hu => by
                  have other : (get k)[j']? = some u → ¬ (k = i ∧ j ≤ j' ∧ j' < j + cs.length) → ∃ x, W'.cell? ⟨b, o + (k * sz + j'), none⟩ = some x ∧ CR R W' u x := by
                    intro hu hnot
                    obtain ⟨x, hx, hv⟩ := hcell k j' u hk hu
                    have hj' : j' < sz := by
                      rcases Nat.lt_or_ge j' (get k).length with h1 | h1
                      · rw [hlen k hk] at h1; exact h1
                      · rw [List.getElem?_eq_none h1] at hu; cases hu
                    refine ⟨x, h2.cell ?_ hx, hv.mono (fun _ hb => hb) hcalm⟩
                    rintro ⟨_, g1, g2⟩
                    rcases Nat.lt_trichotomy k i with hki | rfl | hki
                    · have : (k + 1) * sz ≤ i * sz := Nat.mul_le_mul_right _ hki
                      rw [Nat.succ_mul] at this; omega
                    · exact hnot ⟨rfl, by omega, by omega⟩
                    · have : (i + 1) * sz ≤ k * sz := Nat.mul_le_mul_right _ hki
                      rw [Nat.succ_mul] at this; omega
                  simp only at hu
                  split at hu
                  · rename_i e; subst e
                    rw [putCells_get hleg] at hu
                    split at hu
                    · rename_i hk2
                      obtain ⟨x, hx⟩ := vs_get hl hu
                      refine ⟨x, ?_, (hscal _ u x hu hx).mono (fun _ hb => hb) hcalm⟩
                      have := h3 _ x hx
                      rw [show o + (k * sz + j') = o + (k * sz + j) + (0 + (j' - j)) by omega]; exact this
                    · rename_i hk2
                      exact other hu (by rintro ⟨_, g1, g2⟩; exact hk2 ⟨g1, g2⟩)
                  · rename_i hne
                    exact other hu (by rintro ⟨e, _⟩; exact hne e)⟩⟩
                (fun b' k' hw => .inl ⟨_, hl0, hw⟩)
                (fun m B hm => by
                  by_cases hne : m = l
                  · subst hne; exact .inl ⟨rfl, set_get_self hm⟩
                  · exact .inr (.inr ⟨hne, hne, set_get hm hne⟩)) (fun m hm => h.sim.dom m (by simpa using hm))
              exact this
          · cases ha
        · cases ha
      · cases ha
  · cases ha
/-- A store, also by a pointer to an element of a row of single cells. -/
def aStore (tt : List TE) (t : Nat) (x y : AV) (σ : St) : Option (Bool × St) :=
  match x with
  | .q l sz i j => match σ[l]? with
    | some (.lit _) => aStore0 tt t (.p l (i * sz + j)) y σ
    | _ => aStore0 tt t (.q l sz i j) y σ
  | x => aStore0 tt t x y σ
theorem aStore_ok {P : Program} {tt : List TE} (ht : TTok P tt) {F0 : Nat → Nat → Prop} {W0 : World} {R : Nat → Prop} {φ : Phi} {σ : St} {f : List AV} {tmps : Array Value} {W : World} (h : Rel F0 W0 R φ σ f tmps W)
    {t : Nat} {x y : AV} {v w : Value} (hx : VR R φ W x v) (hy : VR R φ W y w) {c : Bool} {σ' : St} (ha : aStore tt t x y σ = some (c, σ')) (hc : c = true) :
    ∃ W', (Instr.storeAt t v w).run P W = .ok () W' ∧ Rel F0 W0 R φ σ' f tmps W' := by
  unfold aStore at ha
  split at ha
  · split at ha
    · refine aStore0_ok ht h ?_ hy ha hc
      cases hx with
      | imm hi => cases hi
      | q hφ => exact .p hφ
    · exact aStore0_ok ht h hx hy ha hc
  · exact aStore0_ok ht h hx hy ha hc
end Go.Proofs.YtaneamfnjhiigaaDoor.E
