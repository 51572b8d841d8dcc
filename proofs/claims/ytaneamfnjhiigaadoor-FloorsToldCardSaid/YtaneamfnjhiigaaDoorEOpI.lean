/- The engine, part 11: append, as it is told. -/
import Derived.Test.YtaneamfnjhiigaaDoorEOpH
import Derived.Lib.AppendZerosOnto
namespace Go.Proofs.YtaneamfnjhiigaaDoor.E
open Go
set_option linter.unusedSimpArgs false
set_option linter.unusedVariables false

def joined (n : Nat) (g1 g2 : Nat → List AV) : Nat → List AV := fun k => if k < n then g1 k else g2 (k - n)

def aAppend (tt : List TE) (t : Nat) (x y : AV) (σ : St) : Option (Bool × AV × St) :=
  match look tt t with
  | none => none
  | some e => match e.td with
    | .slice el => match look tt el with
      | none => none
      | some ee =>
        match Nat.ble 1 ee.size, Nat.ble ee.size 32768, Nat.ble ee.bytes 32768, Nat.beq ee.zero.length ee.size with
        | true, true, true, true =>
          match rowOf ee.size x σ, rowOf ee.size y σ with
          | some (c1, n, g1), some (c2, m, g2) =>
            match x with
            | .s l _ _ _ => some (c1 && (c2 && Nat.ble (n + m) 4294967295), .s σ.length ee.size 0 (n + m), σ.set l .gone ++ [.tab ee.size (n + m) (joined n g1 g2)])
            | .v _ => some (c2 && Nat.ble m 4294967295, .s σ.length ee.size 0 m, σ ++ [.tab ee.size m g2])
            | .z => some (c2 && Nat.ble m 4294967295, .s σ.length ee.size 0 m, σ ++ [.tab ee.size m g2])
            | _ => none
          | _, _ => none
        | _, _, _, _ => none
    | _ => none

theorem Keep.drew (F : Nat → Nat → Prop) (W : World) : Keep F W W.drew := ⟨rfl, rfl, rfl, Nat.le_refl _, fun _ _ _ => rfl, fun _ c _ _ h => ⟨c, h, rfl, fun _ _ => rfl⟩, fun _ r h => ⟨r.state, r.pending, h⟩⟩

/-- Elements in a list of values. -/
def Reads (R : Nat → Prop) (W : World) (sz n : Nat) (get : Nat → List AV) (xs : List Value) : Prop :=
  xs.length = n * sz ∧ ∀ (k j : Nat) (u : AV), k < n → (get k)[j]? = some u → ∃ x, xs[k * sz + j]? = some x ∧ CR R W u x

theorem Reads.joined {R : Nat → Prop} {W : World} {sz n m : Nat} {g1 g2 : Nat → List AV} {xs ys : List Value} (h1 : Reads R W sz n g1 xs) (h2 : Reads R W sz m g2 ys) (hl : ∀ k, k < n → (g1 k).length = sz) : Reads R W sz (n + m) (joined n g1 g2) (xs ++ ys) := by
  refine ⟨by rw [List.length_append, h1.1, h2.1, Nat.add_mul], fun k j u hk hu => ?_⟩
  unfold E.joined at hu
  split at hu
  · rename_i hkn
    obtain ⟨x, hx, hv⟩ := h1.2 k j u hkn hu
    exact ⟨x, by rw [List.getElem?_append_left]; exact hx; exact (List.getElem?_eq_some_iff.1 hx).1, hv⟩
  · rename_i hkn
    obtain ⟨x, hx, hv⟩ := h2.2 (k - n) j u (by omega) hu
    refine ⟨x, ?_, hv⟩
    have : k * sz = n * sz + (k - n) * sz := by rw [← Nat.add_mul]; congr 1; omega
    rw [List.getElem?_append_right (by rw [h1.1, this]; omega), h1.1, show k * sz + j - n * sz = (k - n) * sz + j by omega]
    exact hx

theorem joined_len {n m sz : Nat} {g1 g2 : Nat → List AV} (h1 : ∀ k, k < n → (g1 k).length = sz) (h2 : ∀ k, k < m → (g2 k).length = sz) : ∀ k, k < n + m → (joined n g1 g2 k).length = sz := by
  intro k hk
  unfold joined
  split
  · exact h1 k ‹_›
  · exact h2 _ (by omega)

/-- A new root that holds a row and some room; the root src may be gone. -/
theorem Rel.fresh {F0 : Nat → Nat → Prop} {W0 : World} {R : Nat → Prop} {φ : Phi} {σ : St} {f : List AV} {tmps : Array Value} {W : World} (h : Rel F0 W0 R φ σ f tmps W) {sz n : Nat} {get : Nat → List AV} {xs : List Value} (h0 : 0 < sz) (hm : n * sz < 281474976710656)
    (hl : ∀ k, k < n → (get k).length = sz) (hr : Reads R W sz n get xs) {c : Array Value} {T : TypeId} {rest : List Value} (hc : c.toList = xs ++ rest) {cap : Nat} (hcap : n ≤ cap) (hsz : c.size = cap * sz) {src : Nat}
    {σ' : St} (hlen : σ'.length = σ.length + 1) (hσ : ∀ m B, σ'[m]? = some B → (m = σ.length ∧ B = .tab sz n get) ∨ B = .gone ∨ (m ≠ src ∧ m ≠ σ.length ∧ σ[m]? = some B)) :
    Rel F0 W0 R (upd φ σ.length (some (W.heap.size, 0))) σ' f tmps (W.drew.alloc (.cells c T)) ∧ VR R (upd φ σ.length (some (W.heap.size, 0))) (W.drew.alloc (.cells c T)) (.s σ.length sz 0 n) (.slice (some ⟨W.heap.size, 0, none⟩) n cap) := by
  have hk : Keep (fun _ _ => False) W (W.drew.alloc (.cells c T)) := (Keep.drew _ W).trans (Keep.alloc (fun _ _ => False) W.drew _) fun _ _ h => h.elim
  have hcalm : Calm R W (W.drew.alloc (.cells c T)) := hk.calm fun _ _ h => h.elim
  refine ⟨Rel.turn h (l := σ.length) (src := src) (B' := .tab sz n get) (G := fun _ _ => False) hk (upd_ext _ (h.sim.dom _ (Nat.le_refl _))) (fun m hm h => upd_none hm h) (fun b k hg => hg.elim) ?_ (fun b k hw => ?_) hσ fun m hm => ?_, ?_⟩
  · refine ⟨h0, hm, hl, .inr ⟨W.heap.size, 0, upd_same _ _ _, Free.new W.drew _ _, fun k j u hkn hu => ?_⟩⟩
    obtain ⟨x, hx, hv⟩ := hr.2 k j u hkn hu
    refine ⟨x, ?_, hv.mono (fun _ h => h) hcalm⟩
    have := World.cell?_alloc_new W.drew c T (k * sz + j)
    rw [Nat.zero_add]
    refine this.trans ?_
    rw [← Array.getElem?_toList, hc, List.getElem?_append_left]
    · exact hx
    · exact (List.getElem?_eq_some_iff.1 hx).1
  · obtain ⟨o, e⟩ := hw
    rw [upd_same] at e
    obtain ⟨rfl, rfl⟩ := Prod.mk.inj (Option.some.inj (Option.some.inj e))
    exact .inr (Nat.le_refl _)
  · unfold upd
    rw [if_neg (by omega)]
    exact h.sim.dom m (by omega)
  · have := VR.s (R := R) (W := W.drew.alloc (.cells c T)) (l := σ.length) (sz := sz) (o := 0) (φ := upd φ σ.length (some (W.heap.size, 0))) (upd_same _ _ _) hcap (by
      have : room (W.drew.alloc (.cells c T)) W.heap.size = c.size := by unfold room; rw [show (W.drew.alloc (.cells c T)).heap[W.heap.size]? = some (.cells c T) from heap_new W.drew _]
      rw [this, hsz]; simp)
    simpa using this

theorem zc_size (z : Array Value) (n : Nat) : (Builtin.zeroCells z n).size = n * z.size := by simp [Builtin.zeroCells]

theorem aAppend_ok {P : Program} {tt : List TE} (ht : TTok P tt) {F0 : Nat → Nat → Prop} {W0 : World} {R : Nat → Prop} {φ : Phi} {σ : St} {f : List AV} {tmps : Array Value} {W : World} (h : Rel F0 W0 R φ σ f tmps W)
    {t ty : Nat} {x y : AV} {v w : Value} (hx : VR R φ W x v) (hy : VR R φ W y w) {c : Bool} {u : AV} {σ' : St} (ha : aAppend tt t x y σ = some (c, u, σ')) (hc : c = true) :
    ∃ z W' φ', (Builtin.append_ #[t, t] ty #[v, w]).run P W = .ok z W' ∧ Ext φ φ' ∧ Rel F0 W0 R φ' σ' f tmps W' ∧ VR R φ' W' u z := by
  unfold aAppend at ha
  cases he : look tt t with
  | none => simp [he] at ha
  | some e =>
    simp only [he] at ha
    have hlk := (look_ok ht he).1
    cases htd : e.td <;> simp only [htd] at ha <;> try (cases ha; done)
    rename_i el
    rw [htd] at hlk
    have hund : P.underlying t = some (.slice el) := hlk
    cases hee : look tt el with
    | none => simp [hee] at ha
    | some ee =>
      simp only [hee] at ha
      split at ha
      case h_2 => cases ha
      rename_i q1 q2 q3 q4
      have q1 := Nat.le_of_ble_eq_true q1
      have q2 := Nat.le_of_ble_eq_true q2
      have q3 := Nat.le_of_ble_eq_true q3
      have q4 := Nat.eq_of_beq_eq_true q4
      obtain ⟨_, i, z, hi, hsz, hby, hz, hzc⟩ := look_ok ht hee
      have hzs : z.cells.size = ee.size := by rw [← q4, ← hzc]; simp
      split at ha
      case h_2 => cases ha
      rename_i c1 n g1 c2 m g2 r1 r2
      -- what is common to all ways
      have main : ∀ (l : Nat) (A : Option Addr) (cap : Nat), v = .slice A n cap → c2 = true → n + m ≤ 4294967295 → n ≤ cap → (∀ k, k < n → (g1 k).length = ee.size) →
          (∀ B, σ[l]? = some B → ∃ N g, B = .tab ee.size N g) →
          ((n = 0 ∧ cap = 0) ∨ ∃ b k0, A = some ⟨b, k0, none⟩ ∧ (∀ (k j : Nat) (u : AV), k < n → (g1 k)[j]? = some u → ∃ y, W.cell? ⟨b, k0 + (k * ee.size + j), none⟩ = some y ∧ CR R W u y) ∧
            ((n = 0 ∧ cap = 0 ∧ ∃ f0, φ l = some (some (b, f0))) ∨ (∃ f0, φ l = some (some (b, f0))) ∧ k0 + cap * ee.size ≤ room W b) ∧ σ[l]?.isSome = true) →
          ∀ (σ1 : St), σ1.length = σ.length + 1 → (∀ m' B, σ1[m']? = some B → (m' = σ.length ∧ B = .tab ee.size (n + m) (joined n g1 g2)) ∨ B = .gone ∨ (m' ≠ l ∧ m' ≠ σ.length ∧ σ[m']? = some B)) →
          ∃ z W' φ', (Builtin.append_ #[t, t] ty #[v, w]).run P W = .ok z W' ∧ Ext φ φ' ∧ Rel F0 W0 R φ' σ1 f tmps W' ∧ VR R φ' W' (.s σ.length ee.size 0 (n + m)) z := by
        intro l A cap hv hc2 hsum hncap hg1 htab hA σ1 hlen hσ
        have hdomU : ∀ p, ∀ m', σ1.length ≤ m' → upd φ σ.length p m' = none := fun p m' hm' => by unfold upd; rw [if_neg (by omega)]; exact h.sim.dom m' (by omega)
        have hxt : ∀ p, Ext φ (upd φ σ.length p) := fun p => upd_ext p (h.sim.dom _ (Nat.le_refl _))
        obtain ⟨hg2, hm2, B, cb, hw, hB⟩ := rowOf_ok h.sim (by omega) hy r2 hc2
        subst hv hw
        have hbig : (n + m) * ee.size < 281474976710656 := Nat.lt_of_le_of_lt (Nat.mul_le_mul hsum q2) (by decide)
        have hbyt : (n + m) * i.bytes ≤ 140737488355328 := by rw [hby]; exact Nat.le_trans (Nat.mul_le_mul hsum q3) (by decide)
        -- the values that come
        obtain ⟨news, hn1, hn2, hn3⟩ : ∃ news : List Value, news.length = m * ee.size ∧ (m = 0 ∨ ∃ b o, B = some ⟨b, o, none⟩ ∧ ∀ (k : Nat) (x : Value), news[k]? = some x → W.cell? ⟨b, o + k, none⟩ = some x) ∧
            (∀ (k j : Nat) (u : AV), k < m → (g2 k)[j]? = some u → ∃ x, news[k * ee.size + j]? = some x ∧ CR R W u x) := by
          rcases hB with rfl | ⟨b, o, rfl, hcell⟩
          · exact ⟨[], by simp, .inl rfl, fun k j u hk => by omega⟩
          · obtain ⟨xs, e1, e2, e3⟩ := row_values hg2 hcell
            exact ⟨xs, e1, .inr ⟨b, o, rfl, e2⟩, e3⟩
        have hR2 : Reads R W ee.size m g2 news := ⟨hn1, hn3⟩
        have hjl := joined_len hg1 hg2
        by_cases hroom : n + m ≤ cap
        · -- there is room
          rcases hA with ⟨rfl, rfl⟩ | ⟨b, k0, rfl, hcell, hph, hso⟩
          · obtain rfl : m = 0 := by omega
            have hnil0 : news = [] := List.eq_nil_of_length_eq_zero (by simpa using hn1)
            refine ⟨.slice A (0 + 0) 0, W, upd φ σ.length none, run_app_room (W' := W) hund hi rfl (by rw [hsz]; exact hn1) hn2 (by omega) (by subst hnil0; cases A <;> simp [storeCells]), hxt _, ?_, .nil (upd_same _ _ _)⟩
            have hk := Keep.refl (fun _ _ => False) W
            refine Rel.turn h (l := σ.length) (src := l) (B' := .tab ee.size (0 + 0) (joined 0 g1 g2)) (G := fun _ _ => False) hk (hxt _) (fun m hm h => upd_none hm h) (fun b k hg => hg.elim) ⟨by omega, by omega, hjl, .inl ⟨upd_same _ _ _, rfl⟩⟩ (fun b k hw => ?_) hσ (hdomU _)
            obtain ⟨o, e⟩ := hw
            rw [upd_same] at e; cases e
          · obtain ⟨Bl, hBl⟩ := Option.isSome_iff_exists.1 hso
            obtain ⟨N, g, rfl⟩ := htab Bl hBl
            have hb := h.sim.blk l _ hBl
            obtain ⟨_, _, _, hb⟩ := hb
            have hfb : Free W b := by
              rcases hb with ⟨e2, _⟩ | ⟨b', o', e2, hfree, _⟩
              · rcases hph with ⟨_, _, f0, e⟩ | ⟨⟨f0, e⟩, _⟩ <;> (rw [e] at e2; cases e2)
              · rcases hph with ⟨_, _, f0, e⟩ | ⟨⟨f0, e⟩, _⟩ <;> (rw [e] at e2; obtain ⟨rfl, rfl⟩ := Prod.mk.inj (Option.some.inj (Option.some.inj e2)); exact hfree)
            have hown : ∀ k, own φ l (.tab ee.size N g) b k := by
              intro k
              rcases hph with ⟨_, _, f0, e⟩ | ⟨⟨f0, e⟩, _⟩ <;> exact ⟨f0, e⟩
            rcases Nat.eq_zero_or_pos m with rfl | hmpos
            · -- nothing is put behind
              have hnil : news = [] := List.eq_nil_of_length_eq_zero (by simpa using hn1)
              subst hnil
              have hk := Keep.refl (fun _ _ => False) W
              refine ⟨.slice (some ⟨b, k0, none⟩) (n + 0) cap, W, upd φ σ.length (some (b, k0)), run_app_room (W' := W) hund hi rfl (by rw [hsz]; exact hn1) hn2 (by omega) (by simp [storeCells]), hxt _, ?_, ?_⟩
              · refine Rel.turn h (l := σ.length) (src := l) (B' := .tab ee.size (n + 0) (joined n g1 g2)) (G := fun _ _ => False) hk (hxt _) (fun m hm h => upd_none hm h) (fun b k hg => hg.elim) ⟨by omega, hbig, hjl, .inr ⟨b, k0, upd_same _ _ _, hfb, fun k j u hk hu => ?_⟩⟩ (fun b' k' hw => ?_) hσ (hdomU _)
                · unfold E.joined at hu
                  rw [if_pos (by omega)] at hu
                  exact hcell k j u (by omega) hu
                · obtain ⟨o, e⟩ := hw
                  rw [upd_same] at e
                  obtain ⟨rfl, rfl⟩ := Prod.mk.inj (Option.some.inj (Option.some.inj e))
                  exact .inl ⟨_, hBl, hown k'⟩
              · rcases hph with ⟨rfl, rfl, f0, e⟩ | ⟨_, hr⟩
                · exact .z (upd_same _ _ _)
                · have := VR.s (R := R) (W := W) (l := σ.length) (sz := ee.size) (o := 0) (φ := upd φ σ.length (some (b, k0))) (upd_same _ _ _) hroom (by simpa using hr)
                  simpa using this
            · rcases hph with ⟨rfl, rfl, _⟩ | ⟨⟨f0, hφ⟩, hr⟩
              · omega
              -- the cells behind are written
              have hex : ∀ k, k < news.length → ∃ x, W.cell? ⟨b, k0 + n * ee.size + (0 + k), none⟩ = some x := by
                intro k hk
                obtain ⟨cc, T, hcc⟩ := hfb
                have hrm : room W b = cc.size := by unfold room; rw [hcc]
                have hlt : k0 + n * ee.size + (0 + k) < cc.size := by
                  have : (n + m) * ee.size ≤ cap * ee.size := Nat.mul_le_mul_right _ hroom
                  rw [Nat.add_mul] at this
                  rw [hn1] at hk; omega
                exact ⟨cc[k0 + n * ee.size + (0 + k)], by unfold World.cell?; simp only [hcc]; simp [hlt]⟩
              have hscal : ∀ x ∈ news, scal x = true := by
                intro x hx
                obtain ⟨q, hq⟩ := List.getElem?_of_mem hx
                have hql : q < m * ee.size := by rw [← hn1]; exact (List.getElem?_eq_some_iff.1 hq).1
                have hk : q / ee.size < m := (Nat.div_lt_iff_lt_mul (by omega)).2 hql
                have hj : q % ee.size < (g2 (q / ee.size)).length := by rw [hg2 _ hk]; exact Nat.mod_lt _ (by omega)
                obtain ⟨x', hx', hv'⟩ := hn3 (q / ee.size) (q % ee.size) _ hk (List.getElem?_eq_getElem hj)
                rw [show q / ee.size * ee.size + q % ee.size = q by rw [Nat.mul_comm]; exact Nat.div_add_mod q ee.size, hq] at hx'
                rw [Option.some.inj hx']; exact hv'.2
              obtain ⟨W', s1, s2, s3⟩ := run_storeCells (P := P) (b := b) (o := k0 + n * ee.size) news 0 W hscal hex hfb
              have hcalm := s2.calm (R := R) (fun b' k' hg hR => by
                obtain ⟨rfl, _⟩ := hg
                exact h.sim.ro l _ hBl b' k' (hown k') hR)
              refine ⟨.slice (some ⟨b, k0, none⟩) (n + m) cap, W', upd φ σ.length (some (b, k0)), run_app_room (W' := W') hund hi rfl (by rw [hsz]; exact hn1) hn2 (by omega) (by rw [hsz]; simp only [add_none]; exact s1), hxt _, ?_, ?_⟩
              · refine Rel.turn h (l := σ.length) (src := l) (B' := .tab ee.size (n + m) (joined n g1 g2)) s2 (hxt _) (fun m hm h => upd_none hm h) (fun b' k' hg => ⟨_, hBl, by obtain ⟨rfl, _⟩ := hg; exact hown k'⟩) ⟨by omega, hbig, hjl, .inr ⟨b, k0, upd_same _ _ _, hfb.keep s2, fun k j u hk hu => ?_⟩⟩ (fun b' k' hw => ?_) hσ (hdomU _)
                · unfold E.joined at hu
                  split at hu
                  · rename_i hkn
                    obtain ⟨x, hx, hv⟩ := hcell k j u hkn hu
                    have hj : j < ee.size := by
                      rcases Nat.lt_or_ge j (g1 k).length with g | g
                      · rw [hg1 k hkn] at g; exact g
                      · rw [List.getElem?_eq_none g] at hu; cases hu
                    have : (k + 1) * ee.size ≤ n * ee.size := Nat.mul_le_mul_right _ hkn
                    rw [Nat.succ_mul] at this
                    exact ⟨x, s2.cell (by rintro ⟨_, g1, _⟩; omega) hx, hv.mono (fun _ hb => hb) hcalm⟩
                  · rename_i hkn
                    obtain ⟨x, hx, hv⟩ := hn3 (k - n) j u (by omega) hu
                    have := s3 _ x hx
                    have e : k * ee.size = n * ee.size + (k - n) * ee.size := by rw [← Nat.add_mul]; congr 1; omega
                    exact ⟨x, by rw [show k0 + (k * ee.size + j) = k0 + n * ee.size + (0 + ((k - n) * ee.size + j)) by omega]; exact this, hv.mono (fun _ hb => hb) hcalm⟩
                · obtain ⟨o, e⟩ := hw
                  rw [upd_same] at e
                  obtain ⟨rfl, rfl⟩ := Prod.mk.inj (Option.some.inj (Option.some.inj e))
                  exact .inl ⟨_, hBl, hown k'⟩
              · have := VR.s (R := R) (W := W') (l := σ.length) (sz := ee.size) (o := 0) (φ := upd φ σ.length (some (b, k0))) (upd_same _ _ _) hroom (Nat.le_trans (by simpa using hr) (s2.room_le b))
                simpa using this
        · -- it grows
          have hmpos : 0 < m := by omega
          rcases hn2 with rfl | ⟨bn, on, rfl, hnews⟩
          · omega
          have hnews' : ∀ j x, news[j]? = some x → W.cell? ((⟨bn, on, none⟩ : Addr).add j) = some x := fun j x hx => by rw [add_none]; exact hnews j x hx
          rcases hA with ⟨rfl, rfl⟩ | ⟨b, k0, rfl, hcell, hph, hso⟩
          · cases A with
            | none =>
              have hrun := run_append_nil (P := P) W t ty el i z hund hi hz ⟨bn, on, none⟩ m cb news (by rw [hsz]; exact hn1) hnews' hmpos (by omega) (by simp only [Nat.zero_add] at hbyt; omega)
              have hge := grownCap_ge W m 0 el
              obtain ⟨f1, f2⟩ := Rel.fresh h (src := l) (sz := ee.size) (n := 0 + m) (get := joined 0 g1 g2) (xs := news) (c := news.toArray ++ Builtin.zeroCells z.cells (grownCap W m 0 el - m)) (T := el) (rest := (Builtin.zeroCells z.cells (grownCap W m 0 el - m)).toList) (cap := grownCap W m 0 el)
                (by omega) hbig hjl (by have := Reads.joined (g1 := g1) (n := 0) (xs := []) ⟨by simp, fun k j u hk => by omega⟩ hR2 (fun k hk => by omega); simpa using this) (by simp) (by omega) (by
                  rw [Array.size_append, zc_size, hzs, List.size_toArray, hn1, ← Nat.add_mul]; congr 1; omega) hlen hσ
              exact ⟨_, _, _, hrun, hxt _, f1, by simpa using f2⟩
            | some a =>
              have hrun := run_append_grow (P := P) W t ty el i z hund hi hz a 0 0 [] (by simp) (fun j x hx => by simp at hx) ⟨bn, on, none⟩ m cb news (by rw [hsz]; exact hn1) hnews' (by omega) (by omega) (growslice_fits (by omega) (by simpa using hbyt))
              have hge := grownCap_ge W (0 + m) 0 el
              obtain ⟨f1, f2⟩ := Rel.fresh h (src := l) (sz := ee.size) (n := 0 + m) (get := joined 0 g1 g2) (xs := news) (c := (#[] : Array Value) ++ news.toArray ++ Builtin.zeroCells z.cells (grownCap W (0 + m) 0 el - (0 + m))) (T := el) (rest := (Builtin.zeroCells z.cells (grownCap W (0 + m) 0 el - (0 + m))).toList) (cap := grownCap W (0 + m) 0 el)
                (by omega) hbig hjl (by have := Reads.joined (g1 := g1) (n := 0) (xs := []) ⟨by simp, fun k j u hk => by omega⟩ hR2 (fun k hk => by omega); simpa using this) (by simp) (by omega) (by
                  rw [Array.size_append, Array.size_append, zc_size, hzs, List.size_toArray, List.size_toArray, hn1, List.length_nil, Nat.zero_add, ← Nat.add_mul]; congr 1; omega) hlen hσ
              exact ⟨_, _, _, hrun, hxt _, f1, by simpa using f2⟩
          · obtain ⟨olds, o1, o2, o3⟩ := row_values hg1 hcell
            have hrun := run_append_grow (P := P) W t ty el i z hund hi hz ⟨b, k0, none⟩ n cap olds (by rw [hsz]; exact o1) (fun j x hx => by rw [add_none]; exact o2 j x hx) ⟨bn, on, none⟩ m cb news (by rw [hsz]; exact hn1) hnews' (by omega) (by omega) (growslice_fits (by omega) hbyt)
            have hge := grownCap_ge W (n + m) cap el
            obtain ⟨f1, f2⟩ := Rel.fresh h (src := l) (sz := ee.size) (n := n + m) (get := joined n g1 g2) (xs := olds ++ news) (c := olds.toArray ++ news.toArray ++ Builtin.zeroCells z.cells (grownCap W (n + m) cap el - (n + m))) (T := el) (rest := (Builtin.zeroCells z.cells (grownCap W (n + m) cap el - (n + m))).toList) (cap := grownCap W (n + m) cap el)
              (by omega) hbig hjl (Reads.joined ⟨o1, o3⟩ hR2 hg1) (by simp) (by omega) (by
                rw [Array.size_append, Array.size_append, zc_size, hzs, List.size_toArray, List.size_toArray, hn1, o1, ← Nat.add_mul, ← Nat.add_mul]; congr 1; omega) hlen hσ
            exact ⟨_, _, _, hrun, hxt _, f1, f2⟩
      cases x with
      | s l sz o n' =>
        simp only [Option.some.injEq, Prod.mk.injEq] at ha
        obtain ⟨rfl, rfl, rfl⟩ := ha
        simp only [Bool.and_eq_true] at hc
        obtain ⟨hc1, hc2, hc3⟩ := hc
        have hc3 := Nat.le_of_ble_eq_true hc3
        obtain ⟨hg1, _, A', cap', hv, hA'⟩ := rowOf_ok h.sim (by omega) hx r1 hc1
        simp only [rowOf] at r1
        split at r1
        case h_2 => cases r1
        rename_i sz'' N g hl
        split at r1
        case h_2 => cases r1
        rename_i e1 e2
        obtain ⟨rfl, hh⟩ := Prod.mk.inj (Option.some.inj r1)
        obtain ⟨rfl, rfl⟩ := Prod.mk.inj hh
        have e1 := Nat.eq_of_beq_eq_true e1
        have e2 := Nat.eq_of_beq_eq_true e2
        subst e1 e2
        have htab : ∀ B, σ[l]? = some B → ∃ N g, B = .tab ee.size N g := fun B hB => by rw [hl] at hB; exact ⟨N, g, (Option.some.inj hB).symm⟩
        have hsome : σ[l]?.isSome = true := by rw [hl]; rfl
        have hσ : ∀ (m' : Nat) (B : Blk), (σ.set l Blk.gone ++ [Blk.tab ee.size (n' + m) (joined n' (fun k => g (o + k)) g2)])[m']? = some B → (m' = σ.length ∧ B = .tab ee.size (n' + m) (joined n' (fun k => g (o + k)) g2)) ∨ B = .gone ∨ (m' ≠ l ∧ m' ≠ σ.length ∧ σ[m']? = some B) := fun m' B hB => by
          rcases append_get hB with ⟨h1, h2⟩ | ⟨h1, h2⟩
          · exact .inl ⟨by simpa using h1, h2⟩
          · by_cases hne : m' = l
            · subst hne; exact .inr (.inl (set_get_self h2))
            · exact .inr (.inr ⟨hne, by simpa using h1, set_get h2 hne⟩)
        have hlen : (σ.set l Blk.gone ++ [Blk.tab ee.size (n' + m) (joined n' (fun k => g (o + k)) g2)]).length = σ.length + 1 := by simp
        cases hx with
        | imm hi => cases hi
        | nil hφ => exact main l _ 0 rfl hc2 hc3 (Nat.le_refl _) hg1 htab (.inl ⟨rfl, rfl⟩) _ hlen hσ
        | z hφ => exact main l _ 0 rfl hc2 hc3 (Nat.le_refl _) hg1 htab (.inr ⟨_, _, rfl, fun k j u hk => by omega, .inl ⟨rfl, rfl, _, hφ⟩, hsome⟩) _ hlen hσ
        | s hφ hn hr =>
          rename_i b f0 cap
          refine main l _ cap rfl hc2 hc3 hn hg1 htab (.inr ⟨b, f0 + o * ee.size, rfl, fun k j u hk hu => ?_, .inr ⟨⟨_, hφ⟩, by rw [Nat.add_mul] at hr; omega⟩, hsome⟩) _ hlen hσ
          rcases hA' with rfl | ⟨b', o', hA', hcell⟩
          · omega
          · injection hv with hv1 hv2 hv3
            rw [hA'] at hv1
            injection hv1 with hv1
            injection hv1 with hb ho
            rw [hb, ho]
            exact hcell k j u hk hu
      | z =>
        simp only [Option.some.injEq, Prod.mk.injEq] at ha
        obtain ⟨rfl, rfl, rfl⟩ := ha
        simp only [Bool.and_eq_true] at hc
        obtain ⟨hc2, hc3⟩ := hc
        have hc3 := Nat.le_of_ble_eq_true hc3
        simp only [rowOf] at r1
        obtain ⟨_, hh⟩ := Prod.mk.inj (Option.some.inj r1)
        obtain rfl := (Prod.mk.inj hh).1
        have hno : σ[σ.length]? = none := List.getElem?_eq_none (Nat.le_refl _)
        have hj : joined 0 g1 g2 = g2 := by funext k; simp [joined]
        cases hx with
        | imm hi => cases hi with
          | z a =>
            have := main σ.length a 0 rfl hc2 (by omega) (Nat.le_refl _) (fun k hk => by omega) (fun B hB => by rw [hno] at hB; cases hB) (.inl ⟨rfl, rfl⟩)
              (σ ++ [.tab ee.size m g2]) (by simp) (fun m' B hB => by
                rw [hj, Nat.zero_add]
                rcases append_get hB with ⟨h1, h2⟩ | ⟨h1, h2⟩
                · exact .inl ⟨h1, h2⟩
                · exact .inr (.inr ⟨h1, h1, h2⟩))
            simpa using this
      | v z' =>
        simp only [Option.some.injEq, Prod.mk.injEq] at ha
        obtain ⟨rfl, rfl, rfl⟩ := ha
        simp only [Bool.and_eq_true] at hc
        obtain ⟨hc2, hc3⟩ := hc
        have hc3 := Nat.le_of_ble_eq_true hc3
        have hz' : z' = .slice none 0 0 ∧ n = 0 := by
          cases z' with
          | slice A len cap =>
            cases A with
            | none => cases len with
              | zero => cases cap with
                | zero =>
                  simp only [rowOf] at r1
                  obtain ⟨_, hh⟩ := Prod.mk.inj (Option.some.inj r1)
                  exact ⟨rfl, (Prod.mk.inj hh).1.symm⟩
                | succ _ => simp [rowOf] at r1
              | succ _ => simp [rowOf] at r1
            | some _ => simp [rowOf] at r1
          | _ => simp [rowOf] at r1
        obtain ⟨rfl, rfl⟩ := hz'
        have hno : σ[σ.length]? = none := List.getElem?_eq_none (Nat.le_refl _)
        have hj : joined 0 g1 g2 = g2 := by funext k; simp [joined]
        have := main σ.length none 0 hx.val hc2 (by omega) (Nat.le_refl _) (fun k hk => by omega) (fun B hB => by rw [hno] at hB; cases hB) (.inl ⟨rfl, rfl⟩)
          (σ ++ [.tab ee.size m g2]) (by simp) (fun m' B hB => by
            rw [hj, Nat.zero_add]
            rcases append_get hB with ⟨h1, h2⟩ | ⟨h1, h2⟩
            · exact .inl ⟨h1, h2⟩
            · exact .inr (.inr ⟨h1, h1, h2⟩))
        simpa using this
      | _ => simp at ha

/-- The elements of a row of single cells. -/
def litRow (tt : List TE) (t : Nat) (z : Value) (sz o n : Nat) (cs : List AV) : Option (List AV) :=
  match z with
  | .slice none 0 0 => match look tt t with
    | some e => match e.td with
      | .slice el => match look tt el with
        | some ee => match Nat.ble 1 ee.size, Nat.ble ee.size 32768, Nat.ble ee.bytes 32768, Nat.beq ee.zero.length ee.size, Nat.beq sz ee.size, Nat.ble 1 n, Nat.ble n 4294967295, Nat.ble ((o + n) * sz) cs.length with
          | true, true, true, true, true, true, true, true => some ((cs.drop (o * sz)).take (n * sz))
          | _, _, _, _, _, _, _, _ => none
        | none => none
      | _ => none
    | none => none
  | _ => none
/-- append; to nil also of a row of single cells. -/
def aApp (tt : List TE) (t : Nat) (x y : AV) (σ : St) : Option (Bool × AV × St) :=
  match x, y with
  | .v z, .s l sz o n => match σ[l]? with
    | some (.lit cs) => match litRow tt t z sz o n cs with
      | some cells => some (true, .s σ.length sz 0 n, σ ++ [.lit cells])
      | none => none
    | _ => aAppend tt t (.v z) (.s l sz o n) σ
  | x, y => aAppend tt t x y σ
theorem aApp_ok {P : Program} {tt : List TE} (ht : TTok P tt) {F0 : Nat → Nat → Prop} {W0 : World} {R : Nat → Prop} {φ : Phi} {σ : St} {f : List AV} {tmps : Array Value} {W : World} (h : Rel F0 W0 R φ σ f tmps W)
    {t ty : Nat} {x y : AV} {v w : Value} (hx : VR R φ W x v) (hy : VR R φ W y w) {c : Bool} {u : AV} {σ' : St} (ha : aApp tt t x y σ = some (c, u, σ')) (hc : c = true) :
    ∃ z W' φ', (Builtin.append_ #[t, t] ty #[v, w]).run P W = .ok z W' ∧ Ext φ φ' ∧ Rel F0 W0 R φ' σ' f tmps W' ∧ VR R φ' W' u z := by
  unfold aApp at ha
  split at ha
  case h_2 => exact aAppend_ok ht h hx hy ha hc
  rename_i z l sz o n
  split at ha
  case h_2 => exact aAppend_ok ht h hx hy ha hc
  rename_i cs hl
  split at ha
  case h_2 => cases ha
  rename_i cells hcells
  simp only [Option.some.injEq, Prod.mk.injEq] at ha
  obtain ⟨_, rfl, rfl⟩ := ha
  unfold litRow at hcells
  split at hcells
  case h_2 => cases hcells
  split at hcells
  case h_2 => cases hcells
  rename_i e he
  split at hcells
  case h_2 => cases hcells
  rename_i el htd
  split at hcells
  case h_2 => cases hcells
  rename_i ee hee
  split at hcells
  case h_2 => cases hcells
  rename_i q1 q2 q3 q4 q5 q6 q7 q8
  obtain rfl := Option.some.inj hcells
  have hlk := (look_ok ht he).1
  rw [htd] at hlk
  have hund : P.underlying t = some (.slice el) := hlk
  have q1 := Nat.le_of_ble_eq_true q1
  have q2 := Nat.le_of_ble_eq_true q2
  have q3 := Nat.le_of_ble_eq_true q3
  have q4 := Nat.eq_of_beq_eq_true q4
  obtain rfl := Nat.eq_of_beq_eq_true q5
  have q6 := Nat.le_of_ble_eq_true q6
  have q7 := Nat.le_of_ble_eq_true q7
  have q8 := Nat.le_of_ble_eq_true q8
  obtain ⟨_, i, z, hi, hsz, hby, hz, hzc⟩ := look_ok ht hee
  have hzs : z.cells.size = ee.size := by rw [← q4, ← hzc]; simp
  obtain rfl := hx.val
  have hbig : n * ee.size < 281474976710656 := Nat.lt_of_le_of_lt (Nat.mul_le_mul q7 q2) (by decide)
  have hbyt : n * i.bytes ≤ 140737488355328 := by rw [hby]; exact Nat.le_trans (Nat.mul_le_mul q7 q3) (by decide)
  obtain ⟨b, f0, hφ, hfree, hcell⟩ := h.sim.blk l _ hl
  cases hy with
  | imm hi => cases hi
  | nil _ => omega
  | z _ => omega
  | s hφ' hn hr =>
  rename_i b' f' cap
  rw [hφ] at hφ'
  obtain ⟨rfl, rfl⟩ := Prod.mk.inj (Option.some.inj (Option.some.inj hφ'))
  have hol : (o + n) * ee.size = o * ee.size + n * ee.size := Nat.add_mul _ _ _
  have hget : ∀ (k : Nat) (u : AV), ((cs.drop (o * ee.size)).take (n * ee.size))[k]? = some u → k < n * ee.size ∧ cs[o * ee.size + k]? = some u := fun k u hu => by
    rw [List.getElem?_take] at hu
    split at hu
    · rename_i hk
      rw [List.getElem?_drop] at hu
      exact ⟨hk, hu⟩
    · cases hu
  have hlen : ((cs.drop (o * ee.size)).take (n * ee.size)).length = n * ee.size := by simp; omega
  obtain ⟨xs, h1, h2, h3⟩ := cells_values (W := W) (V := VR R φ W) (b := b) (o := f0 + o * ee.size) ((cs.drop (o * ee.size)).take (n * ee.size)) fun m u hu => by
    obtain ⟨_, hu'⟩ := hget m u hu
    obtain ⟨x, hx, hv⟩ := hcell _ u hu'
    exact ⟨x, by rw [Nat.add_assoc]; exact hx, hv⟩
  rw [hlen] at h1
  have hrun := run_append_nil (P := P) W t ty el i z hund hi hz ⟨b, f0 + o * ee.size, none⟩ n cap xs (by rw [hsz]; exact h1) (fun j x hx => by rw [add_none]; exact h2 j x hx) (by omega) (by omega) (by omega)
  have hge := grownCap_ge W n 0 el
  have hk : Keep (fun _ _ => False) W (W.drew.alloc (.cells (xs.toArray ++ Builtin.zeroCells z.cells (grownCap W n 0 el - n)) el)) := (Keep.drew _ W).trans (Keep.alloc (fun _ _ => False) W.drew _) fun _ _ h => h.elim
  have hcalm := hk.calm (R := R) fun _ _ h => h.elim
  refine ⟨_, _, upd φ σ.length (some (W.heap.size, 0)), hrun, upd_ext _ (h.sim.dom _ (Nat.le_refl _)), ?_, ?_⟩
  · refine Rel.turn h (l := σ.length) (src := σ.length) (B' := .lit ((cs.drop (o * ee.size)).take (n * ee.size))) (G := fun _ _ => False) hk (upd_ext _ (h.sim.dom _ (Nat.le_refl _))) (fun m hm h => upd_none hm h) (fun b k hg => hg.elim) ?_ (fun b k hw => ?_) (fun m B0 e => ?_) fun m hm => ?_
    · refine ⟨W.heap.size, 0, upd_same _ _ _, Free.new W.drew _ _, fun k u hu => ?_⟩
      obtain ⟨x, hx⟩ := vs_get (h1.trans hlen.symm).symm hu
      refine ⟨x, ?_, (h3 k u x hu hx).mono (fun _ h => h) hcalm hk.room_le (upd_ext _ (h.sim.dom _ (Nat.le_refl _)))⟩
      have := World.cell?_alloc_new W.drew (xs.toArray ++ Builtin.zeroCells z.cells (grownCap W n 0 el - n)) el k
      rw [Nat.zero_add]
      refine this.trans ?_
      rw [← Array.getElem?_toList, Array.toList_append, List.getElem?_append_left]
      · exact hx
      · exact (List.getElem?_eq_some_iff.1 hx).1
    · obtain ⟨o', e, _⟩ := hw
      rw [upd_same] at e
      obtain ⟨rfl, rfl⟩ := Prod.mk.inj (Option.some.inj (Option.some.inj e))
      exact .inr (Nat.le_refl _)
    · rcases append_get e with ⟨rfl, rfl⟩ | ⟨hne, e⟩
      · exact .inl ⟨rfl, rfl⟩
      · exact .inr (.inr ⟨hne, hne, e⟩)
    · unfold upd
      rw [if_neg (by simp at hm; omega)]
      exact h.sim.dom m (by simp at hm; omega)
  · have := VR.s (R := R) (W := W.drew.alloc (.cells (xs.toArray ++ Builtin.zeroCells z.cells (grownCap W n 0 el - n)) el)) (l := σ.length) (sz := ee.size) (o := 0) (φ := upd φ σ.length (some (W.heap.size, 0))) (upd_same _ _ _) hge (by
      have hro : room (W.drew.alloc (.cells (xs.toArray ++ Builtin.zeroCells z.cells (grownCap W n 0 el - n)) el)) W.heap.size = (xs.toArray ++ Builtin.zeroCells z.cells (grownCap W n 0 el - n)).size := by unfold room; rw [show (W.drew.alloc (.cells _ el)).heap[W.heap.size]? = some (.cells _ el) from heap_new W.drew _]
      rw [hro, Array.size_append, zc_size, hzs, List.size_toArray, h1, ← Nat.add_mul, show n + (grownCap W n 0 el - n) = grownCap W n 0 el by omega]; simp)
    simpa using this

/-- append of zero values to nil. -/
def aAppendZ (tt : List TE) (t t' : Nat) (x y : AV) (σ : St) : Option (Bool × AV × St) :=
  match look tt t, look tt t', x, y with
  | some e, some e', .v (.slice none 0 0), .v (.int _ n) => match e.td, e'.td with
    | .slice el, .int _ => match look tt el with
      | none => none
      | some ee => match Nat.ble 1 ee.size, Nat.ble ee.size 32768, Nat.ble ee.bytes 32768, Nat.beq ee.zero.length ee.size, ee.zero.all scal with
        | true, true, true, true, true => some (decide (0 < n) && Nat.ble n.toNat 1073741823, .s σ.length ee.size 0 n.toNat, σ ++ [.tab ee.size n.toNat fun _ => ee.zero.map .v])
        | _, _, _, _, _ => none
    | _, _ => none
  | _, _, _, _ => none
theorem aAppendZ_ok {P : Program} {tt : List TE} (ht : TTok P tt) {F0 : Nat → Nat → Prop} {W0 : World} {R : Nat → Prop} {φ : Phi} {σ : St} {f : List AV} {tmps : Array Value} {W : World} (h : Rel F0 W0 R φ σ f tmps W)
    {t t' ty : Nat} {x y : AV} {v w : Value} (hx : VR R φ W x v) (hy : VR R φ W y w) {c : Bool} {u : AV} {σ' : St} (ha : aAppendZ tt t t' x y σ = some (c, u, σ')) (hc : c = true) :
    ∃ z W' φ', (Builtin.append_ #[t, t'] ty #[v, w]).run P W = .ok z W' ∧ Ext φ φ' ∧ Rel F0 W0 R φ' σ' f tmps W' ∧ VR R φ' W' u z := by
  unfold aAppendZ at ha
  split at ha
  case h_2 => cases ha
  rename_i e e' kn n he he'
  split at ha
  case h_2 => cases ha
  rename_i el k' htd htd'
  have hlk := (look_ok ht he).1
  have hlk' := (look_ok ht he').1
  rw [htd] at hlk
  rw [htd'] at hlk'
  have hund : P.underlying t = some (.slice el) := hlk
  have hund' : P.underlying t' = some (.int k') := hlk'
  cases hee : look tt el with
  | none => simp [hee] at ha
  | some ee =>
    simp only [hee] at ha
    split at ha
    case h_2 => cases ha
    rename_i q1 q2 q3 q4 q5
    have q1 := Nat.le_of_ble_eq_true q1
    have q2 := Nat.le_of_ble_eq_true q2
    have q3 := Nat.le_of_ble_eq_true q3
    have q4 := Nat.eq_of_beq_eq_true q4
    simp only [Option.some.injEq, Prod.mk.injEq] at ha
    obtain ⟨rfl, rfl, rfl⟩ := ha
    simp only [Bool.and_eq_true, decide_eq_true_eq] at hc
    obtain ⟨c0, c1⟩ := hc
    have c1 := Nat.le_of_ble_eq_true c1
    obtain rfl := hx.val
    obtain rfl := hy.val
    obtain ⟨m, rfl⟩ := Int.eq_ofNat_of_zero_le (show 0 ≤ n by omega)
    have hm : m < 1073741824 := by omega
    have hm0 : 0 < m := by omega
    obtain ⟨_, i, z, hi, hsz, hby, hz, hzc⟩ := look_ok ht hee
    have hzs : z.cells.size = ee.size := by rw [← q4, ← hzc]; simp
    have hbig : m * ee.size < 281474976710656 := Nat.lt_of_le_of_lt (Nat.mul_le_mul (Nat.le_of_lt hm) q2) (by decide)
    have hbyt : m * i.bytes ≤ 140737488355328 := by rw [hby]; exact Nat.le_trans (Nat.mul_le_mul (Nat.le_of_lt hm) q3) (by decide)
    have hrun := Lib.run_append_grow_zeros (P := P) W t t' ty el i z kn k' hund hund' hi hz none 0 0 [] (by simp [Builtin.firstCells]) m hm0 (by rw [hsz]; omega) (by omega) (by omega) (by omega) (growslice_fits (by omega) (by simpa using hbyt))
    have hge := grownCap_ge W (0 + m) 0 el
    have hno : σ[σ.length]? = none := List.getElem?_eq_none (Nat.le_refl _)
    have hread : Reads R W ee.size m (fun _ => ee.zero.map .v) (Builtin.zeroCells z.cells m).toList := by
      refine ⟨by rw [Array.length_toList, zc_size, hzs], fun k j u hk hu => ?_⟩
      obtain ⟨y, hy, rfl⟩ := getElem?_map_some hu
      have hj : j < ee.size := by rw [← q4]; exact (List.getElem?_eq_some_iff.1 hy).1
      have hkj : k * ee.size + j < m * ee.size := by
        have : (k + 1) * ee.size ≤ m * ee.size := Nat.mul_le_mul_right _ hk
        rw [Nat.succ_mul] at this; omega
      refine ⟨y, ?_, .v _, List.all_eq_true.1 q5 _ (List.mem_of_getElem? hy)⟩
      rw [Array.getElem?_toList]
      unfold Builtin.zeroCells
      rw [hzs, Array.getElem?_map, Array.getElem?_range, if_pos hkj]
      simp only [Option.map_some]
      rw [Nat.mul_comm k, Nat.mul_add_mod, Nat.mod_eq_of_lt hj]
      have : z.cells[j]? = some y := by rw [← Array.getElem?_toList, hzc]; exact hy
      rw [getElem!_def, this]
    obtain ⟨f1, f2⟩ := Rel.fresh h (src := σ.length) (sz := ee.size) (n := m) (get := fun _ => ee.zero.map .v) (xs := (Builtin.zeroCells z.cells m).toList) (c := ([] : List Value).toArray ++ Builtin.zeroCells z.cells m ++ Builtin.zeroCells z.cells (grownCap W (0 + m) 0 el - (0 + m))) (T := el) (rest := (Builtin.zeroCells z.cells (grownCap W (0 + m) 0 el - (0 + m))).toList) (cap := grownCap W (0 + m) 0 el)
      (by omega) hbig (fun k hk => by rw [List.length_map]; exact q4) hread (by simp) (by omega) (by
        rw [Array.size_append, Array.size_append, zc_size, zc_size, hzs, List.size_toArray, List.length_nil, Nat.zero_add, ← Nat.add_mul]; congr 1; omega) (σ' := σ ++ [.tab ee.size m fun _ => ee.zero.map .v]) (by simp) (fun m' B hB => by
        rcases append_get hB with ⟨h1, h2⟩ | ⟨h1, h2⟩
        · exact .inl ⟨h1, h2⟩
        · exact .inr (.inr ⟨h1, h1, h2⟩))
    exact ⟨_, _, _, hrun, upd_ext _ (h.sim.dom _ (Nat.le_refl _)), by simpa using f1, by simpa using f2⟩
end Go.Proofs.YtaneamfnjhiigaaDoor.E
